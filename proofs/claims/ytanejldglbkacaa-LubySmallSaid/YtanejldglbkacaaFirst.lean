/- First: the list of the first numbers. -/
import Derived.Test.YtanejldglbkacaaAllIt
import Derived.Test.YtanejldglbkacaaIter
namespace Go.Proofs.Ytanejldglbkacaa
open Go Go.RowKit Go.Shelf
set_option linter.unusedVariables false
set_option linter.unusedSimpArgs false
attribute [local go_sem] Oper.semAt_some
theorem Try.info3 : (Try.prog.info? 3).map (fun i => (i.zero, i.size, i.bytes)) = some (some (.int .i64 0), 1, 8) := by kernel_rfl
theorem all_stops (n : Nat) (hn : 1 ≤ n) (w : World) :
    SeqStopsK Fence.wide n Try.prog 38 #[] (fun y : NumIx => #[.int .i64 ((y.1 + 1 : Nat) : Int), .int .i64 (L (y.1 + 1) : Int)]) (fun _ _ => True) (fun ys => ys.map (·.1) = List.range 1099511627776)
      (fun pre => pre.map (·.1) = List.range pre.length) 1099511627776 w := fun l J Jx W hW _ _ hY h0 =>
  all1_in n hn l J Jx (fun pre y W hJ hl => by
    obtain ⟨fn, tmps, assign, body, hy, hR⟩ := hY pre y W hJ hl
    exact ⟨fn, tmps, assign, body, hy, hR.mono fun e w' h => by
      rcases h with ⟨h1, h2, _⟩ | h
      · exact .inl ⟨h1, h2⟩
      · exact .inr h⟩) W h0
/-- The numbers that came. -/
def numsOf (pre : List NumIx) : List Value := pre.map fun y => .int .i64 (L (y.1 + 1) : Int)
theorem range_last {pre : List NumIx} {y : NumIx} (h : (pre ++ [y]).map (·.1) = List.range (pre ++ [y]).length) : pre.map (·.1) = List.range pre.length ∧ y.1 = pre.length := by
  rw [List.length_append, List.length_singleton, List.range_succ, List.map_append] at h
  have := List.append_inj h (by simp)
  exact ⟨this.1, by simpa using this.2⟩
theorem numsOf_range {pre : List NumIx} (h : pre.map (·.1) = List.range pre.length) : numsOf pre = (List.range pre.length).map fun j => .int .i64 (L (j + 1) : Int) := by
  unfold numsOf
  rw [← h, List.map_map]; rfl
def Small (m : Nat) (pre : List NumIx) : Prop := ∀ y ∈ pre, y.1 + 1 ≤ m
theorem Small.nil (m : Nat) : Small m [] := fun _ h => by cases h
theorem Small.snoc {m : Nat} {pre : List NumIx} {y : NumIx} (h : Small m pre) (hy : y.1 + 1 ≤ m) : Small m (pre ++ [y]) := by
  intro z hz
  rw [List.mem_append, List.mem_singleton] at hz
  rcases hz with hz | rfl
  · exact h z hz
  · exact hy
/-- How the loop is left. -/
def Left (m : Nat) (xs : List NumIx) : Prop := ∃ pre y, xs = pre ++ [y] ∧ m < y.1 + 1 ∧ Small m pre
set_option maxRecDepth 100000 in
set_option maxHeartbeats 4000000 in
theorem first_in (n : Nat) (hn : 3 ≤ n) (m : Nat) (hm : m ≤ 4096) (w : World) :
    CallsIn Fence.wide n Try.prog 23 #[.int .i64 m] w fun e w' => ∃ v, e = .returned (.tuple #[v, .int .i64 0]) ∧ w'.ownsRow w.heap.size 3 1 v m ((List.range m).map fun j => .int .i64 (L (j + 1) : Int)) ∧ Below w.heap.size w w' := by
  have h1 : 1 ≤ n := by omega
  obtain ⟨i0, hi, hz0, hz1, hz2⟩ := info_parts Try.info3
  refine callsIn_of_wp_marks Try.func23 rfl trivial ?_ rfl
  simp only [Try.ntmps23, List.size_toArray, List.length_cons, List.length_nil, Nat.reduceAdd, Nat.reduceSub, Array.replicate_succ, Array.replicate_zero, List.push_toArray, List.append_toArray, List.nil_append, List.cons_append]
  gi_wp2_with (refine ⟨trivial, ?_⟩; gi_at_call 24; refine (all_in _ _).mono ?_; rintro e w' ⟨rfl, rfl⟩)
  have bN := Boxed.new w 3 (.int .i64 (m : Int))
  have bO := Boxed.new (w.alloc (.cells #[.int .i64 (m : Int)] 3)) 40 (.slice none 0 0)
  rw [World.size_alloc] at bO
  have hB0 : Below w.heap.size w ((w.alloc (.cells #[.int .i64 (m : Int)] 3)).alloc (.cells #[.slice none 0 0] 40)) := ((Below.refl _ w).alloc (Nat.le_refl _) _).alloc (by simp) _
  replace bN := bN.alloc (.cells #[.slice none 0 0] 40)
  have hsz : ((w.alloc (.cells #[.int .i64 (m : Int)] 3)).alloc (.cells #[.slice none 0 0] 40)).heap.size = w.heap.size + 2 := by simp
  generalize ((w.alloc (.cells #[.int .i64 (m : Int)] 3)).alloc (.cells #[.slice none 0 0] 40)) = W4 at bN bO hB0 hsz ⊢
  refine wpIn_rangeFunc_ownG rfl h1 (gf := 38) (lb := #[]) rfl trivial (enters_of Try.func38 (by kernel_rfl) rfl)
    (all_stops (n - 1) (by omega) W4) (fun _ _ => trivial) (fun _ _ _ _ _ _ _ _ => trivial) (Below.refl _ _) (fun _ => rfl)
    (fun pre W => (Boxed W w.heap.size 3 (.int .i64 (m : Int)) ∧ ∃ v, Boxed W (w.heap.size + 1) 40 v ∧ W.ownsRow (w.heap.size + 2) 3 1 v pre.length (numsOf pre) ∧ Small m pre) ∧ Below w.heap.size w W)
    (fun c xs W => (∃ v, Boxed W (w.heap.size + 1) 40 v ∧ W.ownsRow (w.heap.size + 2) 3 1 v (xs.dropLast).length (numsOf xs.dropLast) ∧ c = .exit 0 ∧ Left m xs) ∧ Below w.heap.size w W)
    (OwnFrom.and (OwnFrom.and (Own.from (boxed_own _ _ (fun _ => .int .i64 (m : Int))) _) (Own.from (holdsRow_own (w.heap.size + 2) (w.heap.size + 1) 40 3 1 (fun pre => pre.length) numsOf (fun pre v => Small m pre)) _)) (ownFrom_below (Nat.le_refl _) (by omega)))
    (fun c => OwnFrom.and (Own.from (holdsRow_own (w.heap.size + 2) (w.heap.size + 1) 40 3 1 (fun xs : List NumIx => (xs.dropLast).length) (fun xs => numsOf xs.dropLast) (fun xs v => c = .exit 0 ∧ Left m xs)) _) (ownFrom_below (Nat.le_refl _) (by omega)))
    ⟨⟨bN, _, bO, World.ownsRow_nil _ _ _ _, Small.nil _⟩, hB0⟩
    (fun y => { tmps := #[Value.int IntKind.i64 ↑m, Value.pointer (some { block := w.heap.size, off := 0 }), Value.slice none 0 0,
          Value.int IntKind.i64 0, Value.pointer (some { block := w.heap.size + 1, off := 0 }), .int .i64 ((y.1 + 1 : Nat) : Int), .int .i64 (L (y.1 + 1) : Int),
          Value.int IntKind.i64 ↑m, Value.bool (decide ((m : Int) < 0)), Value.bool (decide ((m : Int) < 0)),
          Value.int IntKind.i64 ↑m, Value.bool (decide (4096 < (m : Int))), Value.bool (decide ((m : Int) < 0) || decide (4096 < (m : Int))),
          Value.func (Fn.func 38) #[] #[], .int .i64 ((y.1 + 1 : Nat) : Int), .int .i64 (L (y.1 + 1) : Int), undef, undef, undef, undef, undef, undef, undef, undef], defers := [] }) ?assign ?body ?done ?stop
  case assign =>
    intro l y W K hK
    gi_wp2
    exact hK
  case body =>
    rintro l pre ⟨y, hy⟩ W ⟨⟨hbn, v, hv, hrow, hpre⟩, hB⟩ hlt
    dsimp only
    have hc := hbn.cell
    have hcv := hv.cell
    have hsB : w.heap.size + 2 ≤ W.heap.size := by have := hv.lt; omega
    have hLy := Lib.hid (L_pos (y + 1) (by omega))
    by_cases hbr : m < y + 1
    · have hbi : (m : Int) < ((y + 1 : Nat) : Int) := by omega
      gi_wp2
      exact ⟨KeepsFrom.refl _ _, ⟨v, hv, by simpa using hrow, rfl, pre, ⟨y, hy⟩, rfl, hbr, hpre⟩, hB⟩
    · have hbi : ¬ (m : Int) < ((y + 1 : Nat) : Int) := by omega
      gi_wp2_with (gi_at_builtin; refine wpListIn_append_own _ rfl _ _ 40 rfl (w.heap.size + 2) 3 i0 (.int .i64 0) 1 8 Try.underlying40 hi hz0 hz1 hz2 rfl (by decide) _ _ _ rfl (hrow.alloc _) ⟨W.heap.size, 0, none⟩ 1 1 [.int .i64 (L (y + 1) : Int)] rfl rfl (cell_one_new _ _ _) (by simp [Value.oneCell']) (by simp only [maxLen]; omega) (by omega) (by simp; omega) ?_; intro v' w1 hown' hgrow _; obtain ⟨g', cap', rfl⟩ := ownsRow_succ hown'; obtain ⟨hv1, hv2, hr2, hk2, hb2⟩ := hv.appended (n₀ := w.heap.size) (by decide) (own_base hrow (by omega)) hB.size (by omega) (own_base hown' (by omega)) hgrow; replace hr2 := hown'.kept (grownBy_setCell' w1 (w.heap.size + 1) (.slice (some ⟨g', 0, none⟩) (pre.length + 1) cap')) (.inr (hv1.not_row (by decide) hown').symm); have hc1 := hv1.cell; have hf1 := hv1.frozen)
      have hbn2 : Boxed (w1.setCell ⟨w.heap.size + 1, 0, none⟩ (.slice (some ⟨g', 0, none⟩) (pre.length + 1) cap')) w.heap.size 3 (.int .i64 (m : Int)) := by
        have := (hbn.alloc (.cells #[.int .i64 (L (y + 1) : Int)] 3)).kept hgrow (by
          intro e
          have h2 := (hrow.lt _ e.symm).1
          omega)
        exact this.other (by omega) _
      exact ⟨hk2.from _, trivial, ⟨hbn2, _, hv2, by simpa [numsOf] using hr2, hpre.snoc (by show y + 1 ≤ m; omega)⟩, hB.trans hb2⟩
  case done =>
    rintro D ys W hD hS ⟨⟨_, v, hv, hrow, hle⟩, hB⟩ hK
    have : (⟨4096, by omega⟩ : NumIx) ∈ ys := by
      have h : 4096 ∈ ys.map (·.1) := by rw [hS]; exact List.mem_range.2 (by omega)
      obtain ⟨z, hz, hz2⟩ := List.mem_map.1 h
      have : z = ⟨4096, by omega⟩ := Subtype.ext hz2
      rw [← this]; exact hz
    have := hle _ this
    simp at this
    omega
  case stop =>
    rintro D c xs W hD hSp ⟨⟨v, hv, hrow, rfl, pre, y, rfl, hy, hle⟩, hB⟩ hK
    obtain ⟨hr1, hr2⟩ := range_last hSp
    rw [List.dropLast_concat] at hrow
    have hm1 : m ≤ pre.length := by omega
    have hm2 : pre.length ≤ m := by
      rcases Nat.eq_zero_or_pos pre.length with h0 | h0
      · omega
      · have h : pre.length - 1 ∈ pre.map (·.1) := by rw [hr1]; exact List.mem_range.2 (by omega)
        obtain ⟨z, hz, hz2⟩ := List.mem_map.1 h
        have := hle z hz
        omega
    have hmm : pre.length = m := by omega
    rw [numsOf_range hr1, hmm] at hrow
    have hmm := Lib.hid hmm
    clear hr1 hr2 hle hm1 hm2 hSp hy
    have hc := hv.cell
    gi_wp2
    refine ⟨by simp, .inl ⟨_, _, rfl, run_takeDeferred hK, ?_⟩⟩
    exact ⟨_, results_tmp2 rfl _ _ _, v, rfl, ownsRow_putObj (own_base hrow (by omega)) _ hK rfl, hB.trans (belowK_b (w := w) (Nat.le_refl _) W D _ _ (by omega) hK rfl rfl)⟩
theorem first_ok (x : Int) (m : Nat) (hx : x = m) (hm : m ≤ 4096) (w : World) :
    Calls Try.prog 23 #[.int .i64 x] w fun e w' => ∃ v, e = .returned (.tuple #[v, .int .i64 0]) ∧ w'.ownsRow w.heap.size 3 1 v m ((List.range m).map fun j => .int .i64 (L (j + 1) : Int)) ∧ Below w.heap.size w w' := by
  subst hx; exact callsIn_wide.1 (first_in 3 (by omega) m hm w)
end Go.Proofs.Ytanejldglbkacaa
