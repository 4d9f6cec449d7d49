/- Ranges over functions whose iterators range over functions themselves, or read what the rounds change: what an iterator must do, and the law of the statement. -/
import Derived.Test.YtnldbplphgfpeaaIter
namespace Go.Proofs.Ytnldbplphgfpeaa
open Go Go.RowKit Go.Shelf
set_option linter.unusedVariables false
set_option linter.unusedSimpArgs false
theorem no_depth {p : Prop} (h : Fence.wide.depth.isSome = true) : p := by simp [Fence.wide] at h
theorem room_wide' (k : Nat) : Fence.wide.room k := room_wide k
theorem RoundIn.any {F : Fence} (hd : F.depth = none) {m m' : Nat} {P : Program} {l : Nat} {f : FuncId} {tmps : Array Value} {assign body : Code} {w : World} {R : Ending → World → Prop}
    (h : RoundIn F m P l f tmps assign body w R) : RoundIn F m' P l f tmps assign body w R :=
  ⟨h.1, fun c cs _ => h.2 c cs (fun d hd' => by rw [hd] at hd'; cases hd')⟩
theorem YieldAt.any {m : Nat} (m' : Nat) {P : Program} {l : Nat} {args : Array Value} {W : World} {R : Ending → World → Prop} (h : YieldAt Fence.wide m P l args W R) : YieldAt Fence.wide m' P l args W R := by
  obtain ⟨fn, tmps, assign, body, hy, hR⟩ := h
  exact ⟨fn, tmps, assign, body, hy, RoundIn.any rfl hR⟩
/-- An iterator's contract: rounds change the blocks fp alone, and what is new; at each round X holds of the element that comes, at the end E. -/
def Seq {α : Type} (P : Program) (gf : Nat) (lb : Array Value) (encs : α → Array Value) (Rd : List α → World → Prop) (X : List α → World → α → Prop) (E : List α → World → Prop) : Prop :=
  ∀ (n l : Nat) (J : List Nat → List α → World → Prop) (Jx : List α → World → Prop) (W : World) (fp : List Nat),
    (∀ fp, OwnFrom W.heap.size (J fp)) → OwnFrom W.heap.size Jx → (∀ fp pre W1, J fp pre W1 → Rd pre W1) → (∀ k, k ∈ fp → k < W.heap.size) →
    (∀ m fp pre x W1, J fp pre W1 → X pre W1 x → YieldAt Fence.wide m P l (encs x) W1 fun e W' =>
      (e = .returned (.bool true) ∧ (∃ fp', J fp' (pre ++ [x]) W' ∧ ∀ k, k ∈ fp' → k ∈ fp ∨ W1.heap.size ≤ k) ∧ Only fp W1 W') ∨ (e = .returned (.bool false) ∧ Jx (pre ++ [x]) W' ∧ ∃ fx, (∀ k, k ∈ fx → k < W.heap.size) ∧ Only (fx ++ fp) W1 W')) →
    J fp [] W →
    CallsIn Fence.wide n P gf (#[.func (.yield l) #[] #[]] ++ lb) W fun e W' => (∃ v, e = .returned v) ∧ ((∃ fp xs, E xs W' ∧ J fp xs W') ∨ (∃ pre, Jx pre W'))
/-- After a round's assign that boxes its element. -/
def Ax1 {α : Type} (t : TypeId) (cs : α → Array Value) (X : List α → α → Prop) (f : α → Nat → Act) (pre : List α) (x : α) (a' : Act) (W : World) : Prop :=
  ∃ N, a' = f x N ∧ Blk W N t (cs x) ∧ X pre x
theorem own_ax1 {α : Type} {B : Nat} {t : TypeId} {cs : α → Array Value} {X : List α → α → Prop} {f : α → Nat → Act} (pre : List α) (x : α) (a' : Act) : OwnFrom B (fun (_ : Unit) W => Ax1 t cs X f pre x a' W) :=
  ownFrom_of fun _ W W' k ⟨N, h1, h2, h3⟩ => ⟨N, h1, h2.ck k, h3⟩
theorem leaves_one {F : Fence} {n : Nat} {P : Program} {fn : Func} {tmps : Array Value} {R : Ending → World → Prop} {W : World} {D : Nat} (hD : W.heap[D]? = some (.deferred (some [])))
    (h : LeavesInM F n P fn tmps R [] .returning (W.putObj D (.deferred none))) : LeavesInM F n P fn tmps R [{ target := .collected D, args := #[] }] .returning W :=
  ⟨by simp, .inl ⟨_, _, rfl, run_takeDeferred hD, h⟩⟩
/-- How the body of a round may be left. -/
def rpost {α : Type} (B : Nat) (fp : List Nat) (I : List Nat → List α → World → Prop) (Ix : Code → List α → World → Prop) (xs : List α) (W : World) : Exit → Act → World → Prop
  | .normal, _, W' => Only fp W W' ∧ ∃ fp', I fp' xs W' ∧ ∀ k, k ∈ fp' → k ∈ fp ∨ W.heap.size ≤ k
  | .ret, _, W' => (∃ fx, (∀ k, k ∈ fx → k < B) ∧ Only (fx ++ fp) W W') ∧ Ix .ret xs W'
  | .exit id, _, W' => (∃ fx, (∀ k, k ∈ fx → k < B) ∧ Only (fx ++ fp) W W') ∧ Ix (.exit id) xs W'
  | .goto t, _, W' => (∃ fx, (∀ k, k ∈ fx → k < B) ∧ Only (fx ++ fp) W W') ∧ Ix (.goto t) xs W'
  | .panic _, _, _ => False
  | .outgrown, _, _ => False
section
variable {P : Program} {n : Nat}
theorem own_put {β : Type} {B : Nat} {I : β → World → Prop} (h : OwnFrom B I) {s : β} {W : World} {l : Nat} {o : Obj} (o' : Obj) (hs : I s W) (hB : B ≤ l) (hl : W.heap[l]? = some o) (ho : o.isCells = false) : I s (W.putObj l o') :=
  h s W _ (some l) hs (grownBy_putObj' W l o') (fun r e => by cases e; exact ⟨hB, o, hl, ho⟩)
/-- A record that is turned and turned back: as if it had not been turned. -/
theorem only_round {fp : List Nat} {W W3 : World} {l : Nat} {o o1 : Obj} (hl : W.heap[l]? = some o) (h : Only fp (W.putObj l o1) W3) : Only fp W (W3.putObj l o) := by
  have hlt := (Array.getElem?_eq_some_iff.1 hl).1
  have h3 : l < W3.heap.size := by have := h.size; simp at this; omega
  refine ⟨h.os, h.tape, h.output, by simpa using h.size, fun k hk hn => ?_⟩
  by_cases e : k = l
  · subst e
    rw [World.putObj_heap_same h3, hl]
  · rw [World.putObj_heap_other e, h.block k (by simpa using hk) hn, World.putObj_heap_other e]
theorem only_put {fp : List Nat} {W W3 : World} {l : Nat} {o o1 : Obj} (h : Only fp (W.putObj l o1) W3) : Only (l :: fp) W (W3.putObj l o) := by
  refine ⟨h.os, h.tape, h.output, by simpa using h.size, fun k hk hn => ?_⟩
  rw [List.mem_cons, not_or] at hn
  rw [World.putObj_heap_other hn.1, h.block k (by simpa using hk) hn.2, World.putObj_heap_other hn.1]
/-- The statement 'for .. := range g { .. }', in a function's own activation. -/
theorem wpIn_range {α : Type} {g : Operand} {ps : Array Tmp} {assign body : Code} {Q : Exit → Act → World → Prop} {a : Act} {w : World}
    {gf : Nat} {lb : Array Value} (hg : a.eval g = .func (.func gf) #[] lb) (eg : ∀ args w, (callFunc gf args).run P w = .ok (.enter gf args) w)
    {encs : α → Array Value} {Rd : List α → World → Prop} {X : List α → World → α → Prop} {E : List α → World → Prop} (hseq : Seq P gf lb encs Rd X E) (hps : ∀ x, (encs x).size = ps.size)
    (I : List Nat → List α → World → Prop) (Ix : Code → List α → World → Prop) (hI : ∀ fp, OwnFrom w.heap.size (I fp)) (hIx : ∀ c, OwnFrom w.heap.size (Ix c)) (hRd : ∀ fp pre W, I fp pre W → Rd pre W)
    (fp0 : List Nat) (hfp : ∀ k, k ∈ fp0 → k < w.heap.size) (h0 : I fp0 [] w) (Ax : List α → α → Act → World → Prop) (hAx : ∀ pre x a', OwnFrom w.heap.size (fun (_ : Unit) W => Ax pre x a' W))
    (hassign : ∀ (l m : Nat) (fp : List Nat) (pre : List α) (x : α) (W : World) (K : Act → World → Prop), I fp pre W → X pre W x → (∀ a' W', Only [] W W' → I fp pre W' → Ax pre x a' W' → K a' W') →
      assign.wpIn (Fence.wide.inRound l) m P (Exit.then K (fun _ _ _ => False)) { tmps := (ps.zip (encs x)).foldl (fun t (p, v) => t.setIfInBounds p v) a.tmps, defers := [] } W)
    (hbody : ∀ (l m : Nat) (fp : List Nat) (pre : List α) (x : α) (a' : Act) (W : World), I fp pre W → Ax pre x a' W → body.wpIn (Fence.wide.inRound l) m P (rpost w.heap.size fp I Ix (pre ++ [x]) W) a' W)
    (hdone : ∀ (D : Nat) (fp : List Nat) (xs : List α) (W : World), w.heap.size ≤ D → E xs W → I fp xs W → W.heap[D]? = some (.deferred (some [])) → Q .normal { a with defers := { target := .collected D, args := #[] } :: a.defers } W)
    (hE : ∀ xs (W : World) (l : Nat) (o o' : Obj), w.heap.size ≤ l → W.heap[l]? = some o → o.isCells = false → E xs W → E xs (W.putObj l o'))
    (hstop : ∀ (D : Nat) (c : Code) (pre : List α) (W : World), w.heap.size ≤ D → Ix c pre W → W.heap[D]? = some (.deferred (some [])) → c.wpIn Fence.wide n P Q { a with defers := { target := .collected D, args := #[] } :: a.defers } W) :
    (Code.rangeFunc g ps assign body).wpIn Fence.wide n P Q a w := by
  refine wpIn_rangeFunc ?_
  intro fn hfn
  rw [show Fence.wide.round = none from rfl]
  obtain ⟨rec, hrec⟩ : ∃ rec : LoopState → Option Code → Loop, rec = fun st pe => { state := st, pending := pe, fn, tmps := a.tmps, params := ps, assign, body, defers := w.heap.size } := ⟨_, rfl⟩
  have hs1 : ((w.alloc (.deferred (some []))).alloc (.loop (rec .ready none))).heap.size = w.heap.size + 2 := by simp
  have hL1 : ((w.alloc (.deferred (some []))).alloc (.loop (rec .ready none))).heap[w.heap.size + 1]? = some (.loop (rec .ready none)) := by
    have := World.alloc_heap_new (w.alloc (.deferred (some []))) (.loop (rec .ready none)); rwa [World.size_alloc] at this
  have hK1 : ((w.alloc (.deferred (some []))).alloc (.loop (rec .ready none))).heap[w.heap.size]? = some (.deferred (some [])) :=
    (Below.heap_alloc _ _ _ (by simp)).trans (World.alloc_heap_new w _)
  have hI1 : I fp0 [] ((w.alloc (.deferred (some []))).alloc (.loop (rec .ready none))) := (hI fp0).alloc _ ((hI fp0).alloc _ h0)
  generalize hW1 : (w.alloc (.deferred (some []))).alloc (.loop (rec .ready none)) = W1 at hs1 hL1 hK1 hI1
  refine ⟨w.heap.size + 1, [{ target := .collected w.heap.size, args := #[] }], W1, { target := .fn (.func gf) lb, args := #[.func (.yield (w.heap.size + 1)) #[] #[]] }, W1, gf,
    #[.func (.yield (w.heap.size + 1)) #[] #[]] ++ lb, W1, ?_, ?_, ?_, ?_, fun h => by simp [Fence.wide] at h, ?_⟩
  · rw [← hW1, hrec]; exact run_enterLoop_outer _ _ _ _ _
  · simp only [resolve, hg]
    simp [go_sem]
  · intro f' hf'; simp [Target.leads] at hf'; subst hf'; trivial
  · simp [invoke, go_sem, eg]
  · clear hW1
    refine (hseq (n - 1) (w.heap.size + 1)
      (fun fp pre W => I fp pre W ∧ W.heap[w.heap.size + 1]? = some (.loop (rec .ready none)) ∧ W.heap[w.heap.size]? = some (.deferred (some [])) ∧ w.heap.size + 1 ∉ fp ∧ w.heap.size ∉ fp)
      (fun pre W => ∃ c, Ix c pre W ∧ W.heap[w.heap.size + 1]? = some (.loop (rec .done (some c))) ∧ W.heap[w.heap.size]? = some (.deferred (some [])))
      W1 fp0
      (fun fp s A B row hs hg' hr => ⟨hI fp s A B row hs.1 hg' (fun r e => ⟨by have := (hr r e).1; omega, (hr r e).2⟩),
        (hg'.block _ (Array.getElem?_eq_some_iff.1 hs.2.1).1 (fun e => by have := (hr _ e.symm).1; omega)).trans hs.2.1,
        (hg'.block _ (Array.getElem?_eq_some_iff.1 hs.2.2.1).1 (fun e => by have := (hr _ e.symm).1; omega)).trans hs.2.2.1, hs.2.2.2⟩)
      (fun s A B row hs hg' hr => by
        obtain ⟨c, hc, hl, hk⟩ := hs
        exact ⟨c, hIx c s A B row hc hg' (fun r e => ⟨by have := (hr r e).1; omega, (hr r e).2⟩),
          (hg'.block _ (Array.getElem?_eq_some_iff.1 hl).1 (fun e => by have := (hr _ e.symm).1; omega)).trans hl,
          (hg'.block _ (Array.getElem?_eq_some_iff.1 hk).1 (fun e => by have := (hr _ e.symm).1; omega)).trans hk⟩)
      (fun fp pre W h => hRd fp pre W h.1) (fun k hk => by have := hfp k hk; omega) ?_
      ⟨hI1, hL1, hK1, fun hm => by have := hfp _ hm; omega, fun hm => by have := hfp _ hm; omega⟩).mono ?_
    · rintro m fp pre x W ⟨hi, hl, hk, hn1, hn2⟩ hX
      have hlt : w.heap.size + 1 < W.heap.size := (Array.getElem?_eq_some_iff.1 hl).1
      have hy := run_yield (P := P) (args := encs x) hl (by rw [hrec]; exact hps x)
      rw [hrec] at hy
      refine ⟨fn, _, assign, body, hy, roundIn_of_wpIn hfn (hassign _ _ fp pre x W _ hi hX ?_)⟩
      clear hy
      intro a' Wa hoa hia hax
      have hla : Wa.heap[w.heap.size + 1]? = some (.loop (rec .ready none)) := (hoa.block _ (by omega) (by simp)).trans hl
      have hka : Wa.heap[w.heap.size]? = some (.deferred (some [])) := (hoa.block _ (by omega) (by simp)).trans hk
      have hsa := hoa.size
      refine ⟨_, run_beginRound hla (by rw [hrec]), ?_⟩
      have hib := own_put (hI fp) (.loop { rec .ready none with state := .busy }) hia (by omega) hla rfl
      have haxb := own_put (hAx pre x a') (s := ()) (.loop { rec .ready none with state := .busy }) hax (by omega) hla rfl
      refine wpIn_mono (hbody _ _ fp pre x a' _ hib haxb) ?_
      have fin : ∀ (fq : List Nat), w.heap.size + 1 ∉ fq → w.heap.size ∉ fq → ∀ (jump : Option Code) (W3 : World), Only fq (Wa.putObj (w.heap.size + 1) (.loop { rec .ready none with state := .busy })) W3 →
          (Instr.endRound (w.heap.size + 1) jump).run P W3 = .ok (.bool jump.isNone) (W3.putObj (w.heap.size + 1) (.loop (rec (if jump.isNone then .ready else .done) jump))) ∧
          W3.heap[w.heap.size + 1]? = some (.loop { rec .ready none with state := .busy }) ∧
          (W3.putObj (w.heap.size + 1) (.loop (rec (if jump.isNone then .ready else .done) jump))).heap[w.heap.size + 1]? = some (.loop (rec (if jump.isNone then .ready else .done) jump)) ∧
          (W3.putObj (w.heap.size + 1) (.loop (rec (if jump.isNone then .ready else .done) jump))).heap[w.heap.size]? = some (.deferred (some [])) := fun fq hq1 hq2 jump W3 ho3 => by
        have hl3 : W3.heap[w.heap.size + 1]? = some (.loop { rec .ready none with state := .busy }) := by
          rw [ho3.block _ (by simp; omega) hq1]; exact World.putObj_heap_same (by omega)
        have hk3 : W3.heap[w.heap.size]? = some (.deferred (some [])) := by
          rw [ho3.block _ (by simp; omega) hq2, World.putObj_heap_other (by omega)]; exact hka
        have := run_endRound (P := P) jump hl3
        rw [hrec] at this ⊢
        exact ⟨this, by rw [hrec] at hl3; exact hl3, World.putObj_heap_same (Array.getElem?_eq_some_iff.1 hl3).1, (World.putObj_heap_other (by omega)).trans hk3⟩
      rintro e a3 W3 hp
      cases e with
      | normal =>
        obtain ⟨ho3, fp', hi3, hf3⟩ := hp
        obtain ⟨hr, hl3, hl4, hk4⟩ := fin _ hn1 hn2 none W3 ho3
        replace hf3 : ∀ k, k ∈ fp' → k ∈ fp ∨ Wa.heap.size ≤ k := fun k hk => by have := hf3 k hk; rwa [World.putObj_size] at this
        refine ⟨_, _, hr, .inl ⟨rfl, ⟨fp', ⟨own_put (hI fp') _ hi3 (by omega) hl3 rfl, hl4, hk4, fun hm => ?_, fun hm => ?_⟩, fun k hk' => ?_⟩, ?_⟩⟩
        · rcases hf3 _ hm with h | h
          · exact hn1 h
          · omega
        · rcases hf3 _ hm with h | h
          · exact hn2 h
          · omega
        · rcases hf3 k hk' with h | h
          · exact .inl h
          · exact .inr (by omega)
        · exact hoa.more (fq := fp) (by simp) |>.trans (only_round hla ho3)
      | ret =>
        obtain ⟨⟨fx, hfx, ho3⟩, hi3⟩ := hp
        have hx1 : w.heap.size + 1 ∉ fx ++ fp := fun hm => by
          rcases List.mem_append.1 hm with hm | hm
          · have := hfx _ hm; omega
          · exact hn1 hm
        have hx2 : w.heap.size ∉ fx ++ fp := fun hm => by
          rcases List.mem_append.1 hm with hm | hm
          · have := hfx _ hm; omega
          · exact hn2 hm
        obtain ⟨hr, hl3, hl4, hk4⟩ := fin _ hx1 hx2 (some .ret) W3 ho3
        refine ⟨_, _, hr, .inr ⟨rfl, ⟨.ret, own_put (hIx _) _ hi3 (by omega) hl3 rfl, hl4, hk4⟩, (w.heap.size + 1) :: fx, fun k hk => ?_, ?_⟩⟩
        · rcases List.mem_cons.1 hk with rfl | hk
          · omega
          · have := hfx k hk; omega
        · exact (hoa.more (fq := (w.heap.size + 1) :: fx ++ fp) (by simp)).trans (only_put ho3)
      | exit id =>
        obtain ⟨⟨fx, hfx, ho3⟩, hi3⟩ := hp
        have hx1 : w.heap.size + 1 ∉ fx ++ fp := fun hm => by
          rcases List.mem_append.1 hm with hm | hm
          · have := hfx _ hm; omega
          · exact hn1 hm
        have hx2 : w.heap.size ∉ fx ++ fp := fun hm => by
          rcases List.mem_append.1 hm with hm | hm
          · have := hfx _ hm; omega
          · exact hn2 hm
        obtain ⟨hr, hl3, hl4, hk4⟩ := fin _ hx1 hx2 (some (.exit id)) W3 ho3
        refine ⟨_, _, hr, .inr ⟨rfl, ⟨.exit id, own_put (hIx _) _ hi3 (by omega) hl3 rfl, hl4, hk4⟩, (w.heap.size + 1) :: fx, fun k hk => ?_, ?_⟩⟩
        · rcases List.mem_cons.1 hk with rfl | hk
          · omega
          · have := hfx k hk; omega
        · exact (hoa.more (fq := (w.heap.size + 1) :: fx ++ fp) (by simp)).trans (only_put ho3)
      | goto t =>
        obtain ⟨⟨fx, hfx, ho3⟩, hi3⟩ := hp
        have hx1 : w.heap.size + 1 ∉ fx ++ fp := fun hm => by
          rcases List.mem_append.1 hm with hm | hm
          · have := hfx _ hm; omega
          · exact hn1 hm
        have hx2 : w.heap.size ∉ fx ++ fp := fun hm => by
          rcases List.mem_append.1 hm with hm | hm
          · have := hfx _ hm; omega
          · exact hn2 hm
        obtain ⟨hr, hl3, hl4, hk4⟩ := fin _ hx1 hx2 (some (.goto t)) W3 ho3
        refine ⟨_, _, hr, .inr ⟨rfl, ⟨.goto t, own_put (hIx _) _ hi3 (by omega) hl3 rfl, hl4, hk4⟩, (w.heap.size + 1) :: fx, fun k hk => ?_, ?_⟩⟩
        · rcases List.mem_cons.1 hk with rfl | hk
          · omega
          · have := hfx k hk; omega
        · exact (hoa.more (fq := (w.heap.size + 1) :: fx ++ fp) (by simp)).trans (only_put ho3)
      | panic ch => exact hp.elim
      | outgrown => exact hp.elim
    · rintro e W2 ⟨⟨v, rfl⟩, (⟨fp, xs, hE', hi, hl, hk, _⟩ | ⟨pre, c, hi, hl, hk⟩)⟩
      · exact ⟨none, _, by have := run_endLoop (P := P) hl (by rw [hrec]; simp); rw [hrec] at this; exact this,
          hdone _ fp xs _ (Nat.le_refl _) (hE xs W2 _ _ _ (by omega) hl rfl hE') (own_put (hI fp) _ hi (by omega) hl rfl) ((World.putObj_heap_other (by omega)).trans hk)⟩
      · exact ⟨some c, _, by have := run_endLoop (P := P) hl (by rw [hrec]; simp); rw [hrec] at this; exact this,
          hstop _ c pre _ (Nat.le_refl _) (own_put (hIx c) _ hi (by omega) hl rfl) ((World.putObj_heap_other (by omega)).trans hk)⟩
end
end Go.Proofs.Ytnldbplphgfpeaa
