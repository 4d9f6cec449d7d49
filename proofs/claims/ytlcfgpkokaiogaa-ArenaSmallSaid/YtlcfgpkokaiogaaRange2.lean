/- Ranges over functions whose elements are new: what a round may write of them. -/
import Derived.Test.YtlcfgpkokaiogaaRange
namespace Go.Proofs.Ytlcfgpkokaiogaa
open Go Go.RowKit Go.Shelf
set_option linter.unusedVariables false
set_option linter.unusedSimpArgs false
/-- An iterator's contract: as Seq; what a round may change is told from the world ahead of the element's own memory. -/
def Seq2 {α : Type} (P : Program) (gf : Nat) (lb : Array Value) (encs : α → Array Value) (Rd : List α → World → Prop) (X : List α → World → World → α → Prop) (E : List α → World → Prop) : Prop :=
  ∀ (n l : Nat) (J : List Nat → List α → World → Prop) (Jx : List α → World → Prop) (W : World) (fp : List Nat),
    (∀ fp, OwnFrom W.heap.size (J fp)) → OwnFrom W.heap.size Jx → (∀ fp pre W1, J fp pre W1 → Rd pre W1) → (∀ k, k ∈ fp → k < W.heap.size) →
    (∀ m fp pre x W0 W1, J fp pre W0 → J fp pre W1 → Only [] W0 W1 → X pre W0 W1 x → YieldAt Fence.wide m P l (encs x) W1 fun e W' =>
      (e = .returned (.bool true) ∧ (∃ fp', J fp' (pre ++ [x]) W' ∧ ∀ k, k ∈ fp' → k ∈ fp ∨ W0.heap.size ≤ k) ∧ Only fp W0 W') ∨ (e = .returned (.bool false) ∧ Jx (pre ++ [x]) W' ∧ ∃ fx, (∀ k, k ∈ fx → k < W.heap.size) ∧ Only (fx ++ fp) W0 W')) →
    J fp [] W →
    CallsIn Fence.wide n P gf (#[.func (.yield l) #[] #[]] ++ lb) W fun e W' => (∃ v, e = .returned v) ∧ ((∃ fp xs, E xs W' ∧ J fp xs W') ∨ (∃ pre, Jx pre W'))
theorem only_both {W W3 : World} {l : Nat} {o1 : Obj} (h : Only [] W W3) : Only [] (W.putObj l o1) (W3.putObj l o1) := by
  refine ⟨h.os, h.tape, h.output, by simpa using h.size, fun k hk _ => ?_⟩
  simp only [World.putObj_size] at hk
  by_cases e : k = l
  · subst e
    rw [World.putObj_heap_same hk, World.putObj_heap_same (Nat.lt_of_lt_of_le hk h.size)]
  · rw [World.putObj_heap_other e, World.putObj_heap_other e]
    exact h.block k hk (by simp)
section
variable {P : Program} {n : Nat}
/-- The statement 'for .. := range g { .. }', in a function's own activation. -/
theorem wpIn_range2 {α : Type} {g : Operand} {ps : Array Tmp} {assign body : Code} {Q : Exit → Act → World → Prop} {a : Act} {w : World}
    {gf : Nat} {lb : Array Value} (hg : a.eval g = .func (.func gf) #[] lb) (eg : ∀ args w, (callFunc gf args).run P w = .ok (.enter gf args) w)
    {encs : α → Array Value} {Rd : List α → World → Prop} {X : List α → World → World → α → Prop} {E : List α → World → Prop} (hseq : Seq2 P gf lb encs Rd X E) (hps : ∀ x, (encs x).size = ps.size)
    (I : List Nat → List α → World → Prop) (Ix : Code → List α → World → Prop) (hI : ∀ fp, OwnFrom w.heap.size (I fp)) (hIx : ∀ c, OwnFrom w.heap.size (Ix c)) (hRd : ∀ fp pre W, I fp pre W → Rd pre W)
    (fp0 : List Nat) (hfp : ∀ k, k ∈ fp0 → k < w.heap.size) (h0 : I fp0 [] w) (Ax : Nat → List Nat → List α → α → Act → World → Prop) (hAx : ∀ N fp pre x a', OwnFrom w.heap.size (fun (_ : Unit) W => Ax N fp pre x a' W))
    (hassign : ∀ (l m : Nat) (fp : List Nat) (pre : List α) (x : α) (W0 W : World) (K : Act → World → Prop), I fp pre W0 → I fp pre W → Only [] W0 W → X pre W0 W x → (∀ a' W', Only [] W W' → I fp pre W' → Ax W0.heap.size fp pre x a' W' → K a' W') →
      assign.wpIn (Fence.wide.inRound l) m P (Exit.then K (fun _ _ _ => False)) { tmps := (ps.zip (encs x)).foldl (fun t (p, v) => t.setIfInBounds p v) a.tmps, defers := [] } W)
    (hbody : ∀ (l m : Nat) (fp : List Nat) (pre : List α) (x : α) (a' : Act) (W0 W : World), I fp pre W0 → Only [] W0 W → I fp pre W → Ax W0.heap.size fp pre x a' W → body.wpIn (Fence.wide.inRound l) m P (rpost w.heap.size fp I Ix (pre ++ [x]) W0) a' W)
    (hdone : ∀ (D : Nat) (fp : List Nat) (xs : List α) (W : World), w.heap.size ≤ D → E xs W → I fp xs W → W.heap[D]? = some (.deferred (some [])) → Q .normal { a with defers := { target := .collected D, args := #[] } :: a.defers } W)
    (hE : ∀ xs (W : World) (l : Nat) (o o' : Obj), w.heap.size ≤ l → W.heap[l]? = some o → o.isCells = false → E xs W → E xs (W.putObj l o'))
    (hstop : ∀ (D : Nat) (c : Code) (pre : List α) (W : World), w.heap.size ≤ D → Ix c pre W → W.heap[D]? = some (.deferred (some [])) → c.wpIn Fence.wide n P Q { a with defers := { target := .collected D, args := #[] } :: a.defers } W) :
    (Code.rangeFunc g ps assign body).wpIn Fence.wide n P Q a w := by
  refine wpIn_rangeFunc ?_
  intro fn hfn
  rw [show Fence.wide.round = none from rfl]
  obtain ⟨rec, hrec⟩ : ∃ rec : LoopState → Option Code → Loop, rec = fun st pe => { state := st, pending := pe, fn, tmps := a.tmps, params := ps, assign, body, defers := w.heap.size } := ⟨_, rfl⟩
  have hs1 : ((w.alloc (.deferred (some []))).alloc (.loop (rec .ready none))).heap.size = w.heap.size + 2 := by simp
  have hL1 : ((w.alloc (.deferred (some []))).alloc (.loop (rec .ready none))).heap[w.heap.size + 1]? = some (.loop (rec .ready none)) := by
    have := World.alloc_heap_new (w.alloc (.deferred (some []))) (.loop (rec .ready none)); rwa [World.size_alloc] at this
  have hK1 : ((w.alloc (.deferred (some []))).alloc (.loop (rec .ready none))).heap[w.heap.size]? = some (.deferred (some [])) :=
    (Below.heap_alloc _ _ _ (by simp)).trans (World.alloc_heap_new w _)
  have hI1 : I fp0 [] ((w.alloc (.deferred (some []))).alloc (.loop (rec .ready none))) := (hI fp0).alloc _ ((hI fp0).alloc _ h0)
  generalize hW1 : (w.alloc (.deferred (some []))).alloc (.loop (rec .ready none)) = W1 at hs1 hL1 hK1 hI1
  refine ⟨w.heap.size + 1, [{ target := .collected w.heap.size, args := #[] }], W1, { target := .fn (.func gf) lb, args := #[.func (.yield (w.heap.size + 1)) #[] #[]] }, W1, gf,
    #[.func (.yield (w.heap.size + 1)) #[] #[]] ++ lb, W1, ?_, ?_, ?_, ?_, fun h => by simp [Fence.wide] at h, ?_⟩
  · rw [← hW1, hrec]; exact run_enterLoop_outer _ _ _ _ _
  · simp only [resolve, hg]
    simp [go_sem]
  · intro f' hf'; simp [Target.leads] at hf'; subst hf'; trivial
  · simp [invoke, go_sem, eg]
  · clear hW1
    refine (hseq (n - 1) (w.heap.size + 1)
      (fun fp pre W => I fp pre W ∧ W.heap[w.heap.size + 1]? = some (.loop (rec .ready none)) ∧ W.heap[w.heap.size]? = some (.deferred (some [])) ∧ w.heap.size + 1 ∉ fp ∧ w.heap.size ∉ fp)
      (fun pre W => ∃ c, Ix c pre W ∧ W.heap[w.heap.size + 1]? = some (.loop (rec .done (some c))) ∧ W.heap[w.heap.size]? = some (.deferred (some [])))
      W1 fp0
      (fun fp s A B row hs hg' hr => ⟨hI fp s A B row hs.1 hg' (fun r e => ⟨by have := (hr r e).1; omega, (hr r e).2⟩),
        (hg'.block _ (Array.getElem?_eq_some_iff.1 hs.2.1).1 (fun e => by have := (hr _ e.symm).1; omega)).trans hs.2.1,
        (hg'.block _ (Array.getElem?_eq_some_iff.1 hs.2.2.1).1 (fun e => by have := (hr _ e.symm).1; omega)).trans hs.2.2.1, hs.2.2.2⟩)
      (fun s A B row hs hg' hr => by
        obtain ⟨c, hc, hl, hk⟩ := hs
        exact ⟨c, hIx c s A B row hc hg' (fun r e => ⟨by have := (hr r e).1; omega, (hr r e).2⟩),
          (hg'.block _ (Array.getElem?_eq_some_iff.1 hl).1 (fun e => by have := (hr _ e.symm).1; omega)).trans hl,
          (hg'.block _ (Array.getElem?_eq_some_iff.1 hk).1 (fun e => by have := (hr _ e.symm).1; omega)).trans hk⟩)
      (fun fp pre W h => hRd fp pre W h.1) (fun k hk => by have := hfp k hk; omega) ?_
      ⟨hI1, hL1, hK1, fun hm => by have := hfp _ hm; omega, fun hm => by have := hfp _ hm; omega⟩).mono ?_
    · rintro m fp pre x W0 W ⟨hi0, hl0, hk0, _, _⟩ ⟨hi, hl, hk, hn1, hn2⟩ hO01 hX
      have hlt : w.heap.size + 1 < W.heap.size := (Array.getElem?_eq_some_iff.1 hl).1
      have hy := run_yield (P := P) (args := encs x) hl (by rw [hrec]; exact hps x)
      rw [hrec] at hy
      refine ⟨fn, _, assign, body, hy, roundIn_of_wpIn hfn (hassign _ _ fp pre x W0 W _ hi0 hi hO01 hX ?_)⟩
      clear hy
      intro a' Wa hoa' hia hax
      have hoa := hO01.trans hoa'
      have hlt0 : w.heap.size + 1 < W0.heap.size := (Array.getElem?_eq_some_iff.1 hl0).1
      have hla : Wa.heap[w.heap.size + 1]? = some (.loop (rec .ready none)) := (hoa'.block _ (by omega) (by simp)).trans hl
      have hka : Wa.heap[w.heap.size]? = some (.deferred (some [])) := (hoa'.block _ (by omega) (by simp)).trans hk
      have hsa := hoa.size
      refine ⟨_, run_beginRound hla (by rw [hrec]), ?_⟩
      have hib := own_put (hI fp) (.loop { rec .ready none with state := .busy }) hia (by omega) hla rfl
      have hi0b := own_put (hI fp) (.loop { rec .ready none with state := .busy }) hi0 (by omega) hl0 rfl
      have haxb := own_put (hAx W0.heap.size fp pre x a') (s := ()) (.loop { rec .ready none with state := .busy }) hax (by omega) hla rfl
      refine wpIn_mono (hbody _ _ fp pre x a' (W0.putObj (w.heap.size + 1) (.loop { rec .ready none with state := .busy })) _ hi0b (only_both hoa) hib (by rw [World.putObj_size]; exact haxb)) ?_
      have fin : ∀ (fq : List Nat), w.heap.size + 1 ∉ fq → w.heap.size ∉ fq → ∀ (jump : Option Code) (W3 : World), Only fq (W0.putObj (w.heap.size + 1) (.loop { rec .ready none with state := .busy })) W3 →
          (Instr.endRound (w.heap.size + 1) jump).run P W3 = .ok (.bool jump.isNone) (W3.putObj (w.heap.size + 1) (.loop (rec (if jump.isNone then .ready else .done) jump))) ∧
          W3.heap[w.heap.size + 1]? = some (.loop { rec .ready none with state := .busy }) ∧
          (W3.putObj (w.heap.size + 1) (.loop (rec (if jump.isNone then .ready else .done) jump))).heap[w.heap.size + 1]? = some (.loop (rec (if jump.isNone then .ready else .done) jump)) ∧
          (W3.putObj (w.heap.size + 1) (.loop (rec (if jump.isNone then .ready else .done) jump))).heap[w.heap.size]? = some (.deferred (some [])) := fun fq hq1 hq2 jump W3 ho3 => by
        have hl3 : W3.heap[w.heap.size + 1]? = some (.loop { rec .ready none with state := .busy }) := by
          rw [ho3.block _ (by simp; omega) hq1]; exact World.putObj_heap_same (by omega)
        have hk3 : W3.heap[w.heap.size]? = some (.deferred (some [])) := by
          rw [ho3.block _ (by simp; omega) hq2, World.putObj_heap_other (by omega)]; exact hk0
        have := run_endRound (P := P) jump hl3
        rw [hrec] at this ⊢
        exact ⟨this, by rw [hrec] at hl3; exact hl3, World.putObj_heap_same (Array.getElem?_eq_some_iff.1 hl3).1, (World.putObj_heap_other (by omega)).trans hk3⟩
      rintro e a3 W3 hp
      cases e with
      | normal =>
        obtain ⟨ho3, fp', hi3, hf3⟩ := hp
        obtain ⟨hr, hl3, hl4, hk4⟩ := fin _ hn1 hn2 none W3 ho3
        replace hf3 : ∀ k, k ∈ fp' → k ∈ fp ∨ W0.heap.size ≤ k := fun k hk => by have := hf3 k hk; rwa [World.putObj_size] at this
        refine ⟨_, _, hr, .inl ⟨rfl, ⟨fp', ⟨own_put (hI fp') _ hi3 (by omega) hl3 rfl, hl4, hk4, fun hm => ?_, fun hm => ?_⟩, fun k hk' => ?_⟩, ?_⟩⟩
        · rcases hf3 _ hm with h | h
          · exact hn1 h
          · omega
        · rcases hf3 _ hm with h | h
          · exact hn2 h
          · omega
        · rcases hf3 k hk' with h | h
          · exact .inl h
          · exact .inr (by omega)
        · exact only_round hl0 ho3
      | ret =>
        obtain ⟨⟨fx, hfx, ho3⟩, hi3⟩ := hp
        have hx1 : w.heap.size + 1 ∉ fx ++ fp := fun hm => by
          rcases List.mem_append.1 hm with hm | hm
          · have := hfx _ hm; omega
          · exact hn1 hm
        have hx2 : w.heap.size ∉ fx ++ fp := fun hm => by
          rcases List.mem_append.1 hm with hm | hm
          · have := hfx _ hm; omega
          · exact hn2 hm
        obtain ⟨hr, hl3, hl4, hk4⟩ := fin _ hx1 hx2 (some .ret) W3 ho3
        refine ⟨_, _, hr, .inr ⟨rfl, ⟨.ret, own_put (hIx _) _ hi3 (by omega) hl3 rfl, hl4, hk4⟩, (w.heap.size + 1) :: fx, fun k hk => ?_, ?_⟩⟩
        · rcases List.mem_cons.1 hk with rfl | hk
          · omega
          · have := hfx k hk; omega
        · exact only_put ho3
      | exit id =>
        obtain ⟨⟨fx, hfx, ho3⟩, hi3⟩ := hp
        have hx1 : w.heap.size + 1 ∉ fx ++ fp := fun hm => by
          rcases List.mem_append.1 hm with hm | hm
          · have := hfx _ hm; omega
          · exact hn1 hm
        have hx2 : w.heap.size ∉ fx ++ fp := fun hm => by
          rcases List.mem_append.1 hm with hm | hm
          · have := hfx _ hm; omega
          · exact hn2 hm
        obtain ⟨hr, hl3, hl4, hk4⟩ := fin _ hx1 hx2 (some (.exit id)) W3 ho3
        refine ⟨_, _, hr, .inr ⟨rfl, ⟨.exit id, own_put (hIx _) _ hi3 (by omega) hl3 rfl, hl4, hk4⟩, (w.heap.size + 1) :: fx, fun k hk => ?_, ?_⟩⟩
        · rcases List.mem_cons.1 hk with rfl | hk
          · omega
          · have := hfx k hk; omega
        · exact only_put ho3
      | goto t =>
        obtain ⟨⟨fx, hfx, ho3⟩, hi3⟩ := hp
        have hx1 : w.heap.size + 1 ∉ fx ++ fp := fun hm => by
          rcases List.mem_append.1 hm with hm | hm
          · have := hfx _ hm; omega
          · exact hn1 hm
        have hx2 : w.heap.size ∉ fx ++ fp := fun hm => by
          rcases List.mem_append.1 hm with hm | hm
          · have := hfx _ hm; omega
          · exact hn2 hm
        obtain ⟨hr, hl3, hl4, hk4⟩ := fin _ hx1 hx2 (some (.goto t)) W3 ho3
        refine ⟨_, _, hr, .inr ⟨rfl, ⟨.goto t, own_put (hIx _) _ hi3 (by omega) hl3 rfl, hl4, hk4⟩, (w.heap.size + 1) :: fx, fun k hk => ?_, ?_⟩⟩
        · rcases List.mem_cons.1 hk with rfl | hk
          · omega
          · have := hfx k hk; omega
        · exact only_put ho3
      | panic ch => exact hp.elim
      | outgrown => exact hp.elim
    · rintro e W2 ⟨⟨v, rfl⟩, (⟨fp, xs, hE', hi, hl, hk, _⟩ | ⟨pre, c, hi, hl, hk⟩)⟩
      · exact ⟨none, _, by have := run_endLoop (P := P) hl (by rw [hrec]; simp); rw [hrec] at this; exact this,
          hdone _ fp xs _ (Nat.le_refl _) (hE xs W2 _ _ _ (by omega) hl rfl hE') (own_put (hI fp) _ hi (by omega) hl rfl) ((World.putObj_heap_other (by omega)).trans hk)⟩
      · exact ⟨some c, _, by have := run_endLoop (P := P) hl (by rw [hrec]; simp); rw [hrec] at this; exact this,
          hstop _ c pre _ (Nat.le_refl _) (own_put (hIx c) _ hi (by omega) hl rfl) ((World.putObj_heap_other (by omega)).trans hk)⟩
end
end Go.Proofs.Ytlcfgpkokaiogaa
