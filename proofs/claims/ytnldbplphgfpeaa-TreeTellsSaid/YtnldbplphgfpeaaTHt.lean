/- Drawn regions with late stores: what is read stays till the stores come up; what the stores change is told behind them. -/
import Derived.Test.YtnldbplphgfpeaaTHd
namespace Go.Proofs.Ytnldbplphgfpeaa
open Go Go.RowKit Go.Shelf
set_option linter.unusedVariables false
set_option linter.unusedSimpArgs false
/-- None of the stores St has come up. -/
def Ahead (St : List Nat) (listed : Array Bool) : Prop := ∀ s ∈ St, listed.getD s true = false
/-- Whatever order is picked; S holds behind every operation that comes up ahead of the stores. -/
def wpAnyT (P : Program) (md : Region.Mode) (ops : Array Oper) (Q : Exit → Act → World → Prop) (St : List Nat) (S : World → Prop) : Nat → Array Bool → Act → World → Prop
  | 0, listed, a, w => Region.ready md ops listed = [] ∧ Q .normal a w
  | fuel + 1, listed, a, w => (Region.ready md ops listed = [] → Q .normal a w) ∧
    ∀ i ∈ Region.ready md ops listed, wpOp P ops Q i (fun a' w' => (Ahead St (listed.setIfInBounds i true) → S w') ∧ wpAnyT P md ops Q St S fuel (listed.setIfInBounds i true) a' w') a w
section
variable {P : Program} {ops : Array Oper} {Q : Exit → Act → World → Prop} {md : Region.Mode} {S : World → Prop} {St : List Nat}
theorem wpAny_of_T : ∀ (fuel : Nat) (listed : Array Bool) (a : Act) (w : World), wpAnyT P md ops Q St S fuel listed a w → wpAny P md ops Q fuel listed a w
  | 0, _, _, _, h => h
  | fuel + 1, _, _, _, h => ⟨h.1, fun i hi => wpOp_mono (fun a' w' h' => wpAny_of_T fuel _ a' w' h'.2) (h.2 i hi)⟩
theorem not_ready_of {listed : Array Bool} {s i : Nat} {os : Oper} (hs : ops[s]? = some os) (he : ∃ e ∈ os.after, Region.binds md e = true ∧ e.on = i) (hi : i ∈ Region.ready md ops listed) : s ∉ Region.ready md ops listed := fun hj => by
  obtain ⟨e, he, hb, rfl⟩ := he
  obtain ⟨_, oj, hoj, hall⟩ := mem_ready.1 hj
  rw [hs] at hoj
  cases hoj
  have h1 := hall e he hb
  have h0 := (mem_ready.1 hi).1
  rcases Nat.lt_or_ge e.on listed.size with h' | h'
  · simp [h'] at h0 h1; rw [h0] at h1; cases h1
  · simp [Array.getElem?_eq_none h'] at h1
theorem ahead_skip {listed : Array Bool} {i : Nat} (hi : i ∉ St) : Ahead St (listed.setIfInBounds i true) ↔ Ahead St listed :=
  ⟨fun h s hs => by have := h s hs; rwa [getD_set_ne true (fun e => hi (by rw [e]; exact hs))] at this, fun h s hs => by rw [getD_set_ne true (fun e => hi (by rw [e]; exact hs))]; exact h s hs⟩
/-- An operation is taken first: its value under S; or in whatever world (S' all worlds, St' none). -/
theorem wpAnyT_first {S' : World → Prop} {St' : List Nat} (hS' : (St' = St ∧ S' = S) ∨ ∀ w, S' w) {i : Nat} {oi : Oper} {v : Value} (hi : ops[i]? = some oi) (hsel : ∀ (j : Nat) (o : Oper) cs b, ops[j]? = some o → o.op ≠ .select cs b)
    (hQ : ∀ c a w, Q (.panic c) (a.put oi.dst v) w → Q (.panic c) a w) (hiS : i ∉ St) (hst : ∀ s ∈ St', ∃ os, ops[s]? = some os ∧ ∃ e ∈ os.after, Region.binds md e = true ∧ e.on = i) :
    ∀ (fuel : Nat) (listed : Array Bool) (a : Act) (w : World),
      (∀ j oj, ops[j]? = some oj → j ≠ i → listed.getD j true = false → (∀ e ∈ oj.after, Region.binds md e = true → e.on ≠ i) → oi.apart ops oj = true) →
      i ∈ Region.ready md ops listed → YieldsIf P ops S' oi v a → S' w → Ahead St' listed → (Ahead St listed → S w) →
      wpAnyT P md ops Q St S fuel (listed.setIfInBounds i true) (a.put oi.dst v) w → wpAnyT P md ops Q St S (fuel + 1) listed a w := by
  intro fuel
  induction fuel with
  | zero =>
    intro listed a w _ hr hy hS hA hT H
    refine ⟨fun h => (by rw [h] at hr; cases hr), fun j hj => ?_⟩
    by_cases hji : j = i
    · subst hji; exact hy.wpOp hi hS ⟨fun h => hT ((ahead_skip hiS).1 h), H⟩
    · have := ready_mono hj hji
      rw [H.1] at this
      cases this
  | succ fuel ih =>
    intro listed a w hfree hr hy hS hA hT H
    refine ⟨fun h => (by rw [h] at hr; cases hr), fun j hj => ?_⟩
    by_cases hji : j = i
    · subst hji; exact hy.wpOp hi hS ⟨fun h => hT ((ahead_skip hiS).1 h), H⟩
    · have h1 := H.2 j (ready_mono hj hji)
      obtain ⟨hjun, oj, hoj, hall⟩ := mem_ready.1 hj
      have hnot : ∀ e ∈ oj.after, Region.binds md e = true → e.on ≠ i := fun e he hb heq => (not_ready_of hoj ⟨e, he, hb, heq⟩ hr) hj
      have h2 := wpOp_putIf hoj (hfree j oj hoj hji hjun hnot) (fun cs b => hsel i oi cs b hi) (fun cs b => hsel j oj cs b hoj) hQ hy h1
      have hfree' : ∀ k ok, ops[k]? = some ok → k ≠ i → (listed.setIfInBounds j true).getD k true = false →
          (∀ e ∈ ok.after, Region.binds md e = true → e.on ≠ i) → oi.apart ops ok = true := fun k ok hk hki hun hno => by
        refine hfree k ok hk hki ?_ hno
        by_cases hjk : j = k
        · subst hjk; exact hjun
        · rw [getD_set_ne true hjk] at hun; exact hun
      have hA' : Ahead St' (listed.setIfInBounds j true) := fun s hs => by
        obtain ⟨os, h4, h5⟩ := hst s hs
        rw [getD_set_ne true (fun e => by subst e; exact not_ready_of h4 h5 hr hj)]
        exact hA s hs
      have hback : Ahead St (listed.setIfInBounds j true) → Ahead St ((listed.setIfInBounds i true).setIfInBounds j true) := fun h => by
        rw [Array.setIfInBounds_comm _ _ (Ne.symm hji)]
        exact (ahead_skip hiS).2 h
      refine wpOp_mono (fun a' w' h3 => ⟨fun hs => h3.2.1 (hback hs), ih (listed.setIfInBounds j true) a' w' hfree' (ready_mono hr (Ne.symm hji)) h3.1 ?_ hA' (fun hs => h3.2.1 (hback hs)) ?_⟩) h2
      · rcases hS' with ⟨e1, e2⟩ | h
        · rw [e2]; rw [e1] at hA'; exact h3.2.1 (hback hA')
        · exact h _
      · rw [Array.setIfInBounds_comm _ _ hji]
        exact h3.2.2
/-- All have come up. -/
theorem wpAnyT_done {listed : Array Bool} {a : Act} {w : World} (hr : Region.ready md ops listed = []) (h : Q .normal a w) : ∀ fuel, wpAnyT P md ops Q St S fuel listed a w
  | 0 => ⟨hr, h⟩
  | _ + 1 => ⟨fun _ => h, by rw [hr]; simp⟩
theorem wp_region_T {id : Nat} {a : Act} {w : World} (hm : P.follows .mixedOrders = true) (h : wpAnyT P .any ops Q St S ops.size (Array.replicate ops.size false) a w.drew) : (Code.region id ops true).wp P Q a w :=
  wp_region_any hm (wpAny_of_T _ _ _ _ h)
end
/-- Each of the stores waits for number i: a quick test. -/
def waits (md : Region.Mode) (L : List Oper) (St : List Nat) (i : Nat) : Bool := St.all fun s => match L[s]? with | some o => o.after.toList.any fun e => Region.binds md e && e.on == i | none => false
theorem waits_spec {md : Region.Mode} {L : List Oper} {St : List Nat} {i : Nat} (h : waits md L St i = true) : ∀ s ∈ St, ∃ os, L.toArray[s]? = some os ∧ ∃ e ∈ os.after, Region.binds md e = true ∧ e.on = i := fun s hs => by
  have h1 := List.all_eq_true.1 h s hs
  cases ho : L[s]? with
  | none => rw [ho] at h1; cases h1
  | some o =>
    rw [ho] at h1
    obtain ⟨e, he, h2⟩ := List.any_eq_true.1 h1
    rw [Bool.and_eq_true, beq_iff_eq] at h2
    exact ⟨o, by simpa using ho, e, by simpa using he, h2.1, h2.2⟩
def aheadB (St : List Nat) (listed : Array Bool) : Bool := St.all fun s => !(listed.getD s true)
theorem ahead_spec {St : List Nat} {listed : Array Bool} (h : aheadB St listed = true) : Ahead St listed := fun s hs => by
  have := List.all_eq_true.1 h s hs
  simpa using this
theorem nomore {St : List Nat} {listed : Array Bool} {S : World → Prop} {w : World} (h : aheadB St listed = false) : Ahead St listed → S w := fun hA =>
  absurd (List.all_eq_true.2 fun s hs => (by rw [hA s hs]; rfl) : aheadB St listed = true) (fun h' => by unfold aheadB at h; rw [h] at h'; cases h')
/-- A load is taken first, its text read off a list. -/
theorem takeT {P : Program} {md : Region.Mode} {L : List Oper} {Q : Exit → Act → World → Prop} {St : List Nat} {S : World → Prop} (i : Nat) {oi : Oper} {v : Value} {fuel : Nat} {listed : Array Bool} {a : Act} {w : World} (hi : L[i]? = some oi)
    (hs : Region.noSelect L.toArray = true) (hf : Region.free md L.toArray listed i = true) (hr : (Region.ready md L.toArray listed).contains i = true) (hst : (!St.contains i && (waits md L St i && aheadB St listed)) = true)
    (hQ : ∀ c a w, Q (.panic c) (a.put oi.dst v) w → Q (.panic c) a w) (hw : Region.wanted oi (yielded L.toArray a.tmps) = true) (hS : S w) (hv : ∀ w, S w → (execOp a.eval oi).run P w = .ok (.value v) w)
    (h : wpAnyT P md L.toArray Q St S fuel (listed.setIfInBounds i true) (a.put oi.dst v) w) : wpAnyT P md L.toArray Q St S (fuel + 1) listed a w := by
  simp only [Bool.and_eq_true] at hst
  exact wpAnyT_first (.inl ⟨rfl, rfl⟩) (by simpa using hi) (Region.noSelect_spec hs) hQ (by have := hst.1; simpa using this) (waits_spec hst.2.1) fuel listed a w (Region.free_spec (by simpa using hi) hf) (by simpa using hr) (.inl ⟨hw, hv⟩) hS (ahead_spec hst.2.2) (fun _ => hS) h
/-- What looks at no world is taken first. -/
theorem pureT {P : Program} {md : Region.Mode} {L : List Oper} {Q : Exit → Act → World → Prop} {St : List Nat} {S : World → Prop} (i : Nat) {oi : Oper} {v : Value} {fuel : Nat} {listed : Array Bool} {a : Act} {w : World} (hi : L[i]? = some oi)
    (hs : Region.noSelect L.toArray = true) (hf : Region.free md L.toArray listed i = true) (hr : (Region.ready md L.toArray listed).contains i = true) (hst : (!St.contains i) = true)
    (hQ : ∀ c a w, Q (.panic c) (a.put oi.dst v) w → Q (.panic c) a w) (hw : Region.wanted oi (yielded L.toArray a.tmps) = true) (hS : Ahead St listed → S w) (hv : ∀ w, (execOp a.eval oi).run P w = .ok (.value v) w)
    (h : wpAnyT P md L.toArray Q St S fuel (listed.setIfInBounds i true) (a.put oi.dst v) w) : wpAnyT P md L.toArray Q St S (fuel + 1) listed a w :=
  wpAnyT_first (S' := fun _ => True) (St' := []) (.inr fun _ => trivial) (by simpa using hi) (Region.noSelect_spec hs) hQ (by simpa using hst) (fun _ h => by cases h) fuel listed a w (Region.free_spec (by simpa using hi) hf) (by simpa using hr) (.inl ⟨hw, fun w _ => hv w⟩) trivial (fun _ h => by cases h) hS h
theorem wpAnyT_all {P : Program} {md : Region.Mode} {ops : Array Oper} {Q : Exit → Act → World → Prop} {St : List Nat} {S : World → Prop} {i : Nat} {fuel : Nat} {listed : Array Bool} {a : Act} {w : World} (hr : Region.ready md ops listed = [i])
    (h : wpOp P ops Q i (fun a' w' => (Ahead St (listed.setIfInBounds i true) → S w') ∧ wpAnyT P md ops Q St S fuel (listed.setIfInBounds i true) a' w') a w) : wpAnyT P md ops Q St S (fuel + 1) listed a w :=
  ⟨fun h0 => (by rw [hr] at h0; cases h0), fun j hj => by
    rw [hr, List.mem_singleton] at hj
    subst hj
    exact h⟩
/-- The one operation that may come up is a call: S is shown behind it. -/
theorem callT {P : Program} {md : Region.Mode} {L : List Oper} {Q : Exit → Act → World → Prop} {St : List Nat} {S : World → Prop} (i : Nat) {oi : Oper} {fuel : Nat} {listed : Array Bool} {a : Act} {w : World} (hi : L[i]? = some oi)
    (hr : Region.ready md L.toArray listed = [i])
    (h : ∀ K' : Act → World → Prop, Shut (∀ a w, S w → (S w → wpAnyT P md L.toArray Q St S fuel (listed.setIfInBounds i true) a w) → K' a w) → if Region.wanted oi (yielded L.toArray a.tmps) = true then Oper.wp P oi a w K' Q else K' (a.put oi.dst undef) w) : wpAnyT P md L.toArray Q St S (fuel + 1) listed a w :=
  wpAnyT_all hr (wpOp_step (by simpa using hi) (fun K' hK => h K' (fun a w hS hW => hK a w ⟨fun _ => hS, hW hS⟩)))
/-- The one operation that may come up is a store: nothing is to be shown any more. -/
theorem storeT {P : Program} {md : Region.Mode} {L : List Oper} {Q : Exit → Act → World → Prop} {St : List Nat} {S : World → Prop} (i : Nat) {oi : Oper} {fuel : Nat} {listed : Array Bool} {a : Act} {w : World} (hi : L[i]? = some oi)
    (hr : Region.ready md L.toArray listed = [i]) (hn : aheadB St (listed.setIfInBounds i true) = false)
    (h : ∀ K' : Act → World → Prop, Shut (∀ a w, wpAnyT P md L.toArray Q St S fuel (listed.setIfInBounds i true) a w → K' a w) → if Region.wanted oi (yielded L.toArray a.tmps) = true then Oper.wp P oi a w K' Q else K' (a.put oi.dst undef) w) : wpAnyT P md L.toArray Q St S (fuel + 1) listed a w :=
  wpAnyT_all hr (wpOp_step (by simpa using hi) (fun K' hK => h K' (fun a w hW => hK a w ⟨fun hA => absurd (List.all_eq_true.2 fun s hs => (by rw [hA s hs]; rfl) : aheadB St (listed.setIfInBounds i true) = true) (fun h => by unfold aheadB at hn; rw [hn] at h; cases h), hW⟩)))
end Go.Proofs.Ytnldbplphgfpeaa
