/- A quick test that one walk in the order of the text serves every order of a region (lists of numbers alone); and the region's law over it, where callees only make memory. -/
import Derived.Test.YtnldbplphgfpeaaBase
namespace Go.Proofs.Ytnldbplphgfpeaa
open Go Go.RowKit
/-- What an operation waits for, writes (0: nothing; d + 1) and looks at. -/
def opCode (md : Region.Mode) (ops : Array Oper) (o : Oper) : List Nat × Nat × List Nat :=
  ((o.after.toList.filter (Region.binds md)).map (·.on), (match o.dst with | some d => d + 1 | none => 0), o.looksAt ops)
def apartN (d : Nat) (lk : List Nat) (d' : Nat) (lk' : List Nat) : Bool :=
  (match d with | 0 => true | e + 1 => !lk'.elem e && !Nat.beq d' (e + 1)) && (match d' with | 0 => true | e + 1 => !lk.elem e)
def lexChk : Nat → List (List Nat × Nat × List Nat) → Bool
  | _, [] => true
  | k, c :: rest => c.1.all (fun i => Nat.blt i k) && (rest.all (fun c' => c'.1.elem k || apartN c.2.1 c.2.2 c'.2.1 c'.2.2) && lexChk (k + 1) rest)
section
variable {P : Program} {ops : Array Oper} {md : Region.Mode} {C : World → Prop}
theorem apart_of_apartN {x y : Oper} (h : apartN (opCode md ops x).2.1 (opCode md ops x).2.2 (opCode md ops y).2.1 (opCode md ops y).2.2 = true) : x.apart ops y = true := by
  unfold apartN opCode at h
  unfold Oper.apart
  simp only [Bool.and_eq_true] at h ⊢
  obtain ⟨h1, h2⟩ := h
  constructor
  · cases hx : x.dst with
    | none => rfl
    | some d =>
      simp only [hx, Bool.and_eq_true] at h1 ⊢
      refine ⟨by simpa using h1.1, ?_⟩
      have h3 := h1.2
      cases hy : y.dst with
      | none => rfl
      | some d' =>
        simp only [hy] at h3
        simp only [bne_iff_ne, ne_eq, Option.some.injEq]
        intro e
        subst e
        simp at h3
  · cases hy : y.dst with
    | none => rfl
    | some d =>
      simp only [hy] at h2 ⊢
      simpa using h2
theorem wpAnyQ_lexChk {Q : Act → Prop} (hs : Region.noSelect ops = true) : ∀ (l : List Oper) (k : Nat) (listed : Array Bool) (a : Act), (∀ j, l[j]? = ops[k + j]?) →
    listed.size = ops.size → (∀ j, j < ops.size → listed[j]? = some (decide (j < k))) →
    lexChk k (l.map (opCode md ops)) = true → wpQuiet P ops C Q l a → wpAnyQ P md ops C Q l.length listed a
  | [], k, listed, _, hl, hsz, hL, _, h => by
    refine ⟨?_, h⟩
    have hk : ops.size ≤ k := by
      have := hl 0
      simp only [List.getElem?_nil, Nat.add_zero] at this
      exact Array.getElem?_eq_none_iff.1 this.symm
    rw [List.eq_nil_iff_forall_not_mem]
    intro j hj
    obtain ⟨h0, o, ho, _⟩ := mem_ready.1 hj
    have hlt : j < ops.size := (Array.getElem?_eq_some_iff.1 ho).1
    have := hL j hlt
    simp [this] at h0
    omega
  | o :: l, k, listed, a, hl, hsz, hL, hB, h => by
    have h0 : ops[k]? = some o := by simpa using (hl 0).symm
    have hk : k < ops.size := (Array.getElem?_eq_some_iff.1 h0).1
    simp only [List.map_cons, lexChk, Bool.and_eq_true] at hB
    obtain ⟨hr, hf, hB'⟩ := hB
    have hready : k ∈ Region.ready md ops listed := by
      refine mem_ready.2 ⟨by simp [hL k hk], o, h0, fun e he hb => ?_⟩
      have h1 := List.all_eq_true.1 hr e.on (by
        simp only [opCode, List.mem_map, List.mem_filter]
        exact ⟨e, ⟨by simpa using he, hb⟩, rfl⟩)
      have h2 : e.on < k := by simpa using h1
      simp [hL e.on (by omega), h2]
    have hfree : ∀ j oj, ops[j]? = some oj → j ≠ k → listed.getD j true = false → (∀ e ∈ oj.after, Region.binds md e = true → e.on ≠ k) → o.apart ops oj = true := by
      intro j oj hj hne hun hno
      have hlt : j < ops.size := (Array.getElem?_eq_some_iff.1 hj).1
      have hge : k < j := by
        simp [hL j hlt] at hun
        omega
      have hmem : oj ∈ l := by
        have := hl (j - k)
        rw [show k + (j - k) = j by omega, hj, show j - k = (j - k - 1) + 1 by omega, List.getElem?_cons_succ] at this
        exact List.mem_of_getElem? this
      have h1 := List.all_eq_true.1 hf (opCode md ops oj) (List.mem_map_of_mem hmem)
      rw [Bool.or_eq_true] at h1
      rcases h1 with h1 | h1
      · have h2 : k ∈ (opCode md ops oj).1 := by simpa using h1
        simp only [opCode, List.mem_map, List.mem_filter] at h2
        obtain ⟨e, ⟨he, hb⟩, hk'⟩ := h2
        exact absurd hk' (hno e (by simpa using he) hb)
      · exact apart_of_apartN h1
    have hst : qOp P ops C k (wpQuiet P ops C Q l) a := by unfold qOp; simp only [h0]; exact h
    obtain ⟨v, hy, hK⟩ := yieldsIn_of_qOp h0 hst
    refine wpAnyQ_first h0 (Region.noSelect_spec hs) l.length listed a hfree hready hy
      (wpAnyQ_lexChk hs l (k + 1) _ _ (fun j => by have := hl (j + 1); simpa [Nat.add_assoc, Nat.add_comm 1 j] using this) (by simp [hsz]) (fun j hj => ?_) hB' hK)
    rw [Array.getElem?_setIfInBounds]
    by_cases e : k = j
    · subst e
      simp [hsz, hk]
    · rw [if_neg e, hL j hj]
      congr 1
      simp only [decide_eq_decide]
      omega
end
/-- A world that is W but for new blocks and writes into those. -/
structure Ext (W : World) where
  w : World
  below : Below W.heap.size W w
instance (W : World) : Nonempty (Ext W) := ⟨⟨W, Below.refl _ _⟩⟩
/-- A region that draws its order, whose operations read old cells, and whose callees only make memory: ONE walk, in the order of the text. -/
theorem wp_region_grown {P : Program} {id : Nat} {Q : Exit → Act → World → Prop} {a : Act} {w : World} {l : List Oper} (hm : P.follows .mixedOrders = true) (hs : Region.noSelect l.toArray = true)
    (hB : lexChk 0 (l.map (opCode .any l.toArray)) = true)
    (h : wpQuiet P l.toArray (fun w' => ∃ x : Ext w, w' = x.w) (fun a' => ∀ w', (∃ x : Ext w, w' = x.w) → Q .normal a' w') l a) : (Code.region id l.toArray true).wp P Q a w := by
  refine wp_region_any hm (wpAny_of_quiet (C := fun w' => ∃ x : Ext w, w' = x.w) (Q := fun a' => ∀ w', (∃ x : Ext w, w' = x.w) → Q .normal a' w') (fun _ w' hw' h => h w' hw') _ _ _ _ ⟨⟨_, (Below.refl _ w).drew⟩, rfl⟩ ?_)
  have := wpAnyQ_lexChk (C := fun w' => ∃ x : Ext w, w' = x.w) (md := .any) hs l 0 (Array.replicate l.toArray.size false) a (by simp) (by simp) (fun j hj => by simp at hj; simp [hj]) hB h
  simpa using this
theorem grown_of {P : Program} {W : World} {x : Ext W} {f : FuncId} {args : Array Value} {v : Value} (h : Calls P f args x.w fun e w' => e = .returned v ∧ Below x.w.heap.size x.w w') :
    Calls P f args x.w fun e w'' => e = .returned v ∧ ∃ y : Ext W, w'' = y.w :=
  h.mono fun _ _ ⟨he, hb⟩ => ⟨he, ⟨_, x.below.trans (hb.mono x.below.size)⟩, rfl⟩
theorem grown_of_same {P : Program} {W : World} {x : Ext W} {f : FuncId} {args : Array Value} {v : Value} (h : Calls P f args x.w fun e w' => e = .returned v ∧ x.w = w') :
    Calls P f args x.w fun e w'' => e = .returned v ∧ ∃ y : Ext W, w'' = y.w :=
  h.mono fun _ _ ⟨he, hb⟩ => ⟨he, x, hb.symm⟩
theorem Ext.cell {W : World} {p : Addr} {v : Value} (h : W.cell? p = some v) (hp : p.block < W.heap.size) (x : Ext W) : x.w.cell? p = some v := (x.below.cell hp).trans h
end Go.Proofs.Ytnldbplphgfpeaa
