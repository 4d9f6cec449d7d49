/- A range over a function that a round may break: what follows, told once. -/
import Derived.Test.YtnldbplphgfpeaaRange
namespace Go.Proofs.Ytnldbplphgfpeaa
open Go Go.RowKit Go.Shelf
set_option linter.unusedVariables false
section
variable {P : Program} {n : Nat}
theorem wpIn_range_join {α : Type} {g : Operand} {ps : Array Tmp} {assign body : Code} {Q : Exit → Act → World → Prop} {a : Act} {w : World}
    {gf : Nat} {lb : Array Value} (hg : a.eval g = .func (.func gf) #[] lb) (eg : ∀ args w, (callFunc gf args).run P w = .ok (.enter gf args) w)
    {encs : α → Array Value} {Rd : List α → World → Prop} {X : List α → World → α → Prop} {E : List α → World → Prop} (hseq : Seq P gf lb encs Rd X E) (hps : ∀ x, (encs x).size = ps.size)
    (I : List Nat → List α → World → Prop) (Jx : List α → World → Prop) (hI : ∀ fp, OwnFrom w.heap.size (I fp)) (hJ : OwnFrom w.heap.size Jx) (hRd : ∀ fp pre W, I fp pre W → Rd pre W)
    (fp0 : List Nat) (hfp : ∀ k, k ∈ fp0 → k < w.heap.size) (h0 : I fp0 [] w) (Ax : Array Value → List α → α → Act → World → Prop) (hAx : ∀ pre x a', OwnFrom w.heap.size (fun (_ : Unit) W => Ax a.tmps pre x a' W))
    (hassign : ∀ (l m : Nat) (fp : List Nat) (pre : List α) (x : α) (W : World) (K : Act → World → Prop), I fp pre W → X pre W x → (∀ a' W', Only [] W W' → I fp pre W' → Ax a.tmps pre x a' W' → K a' W') →
      assign.wpIn (Fence.wide.inRound l) m P (Exit.then K (fun _ _ _ => False)) { tmps := (ps.zip (encs x)).foldl (fun t (p, v) => t.setIfInBounds p v) a.tmps, defers := [] } W)
    (k : Nat) (hQ : ∀ a W, Q .normal a W → Q (.exit k) a W)
    (hbody : ∀ (l m : Nat) (fp : List Nat) (pre : List α) (x : α) (a' : Act) (W : World), I fp pre W → Ax a.tmps pre x a' W → body.wpIn (Fence.wide.inRound l) m P (rpost w.heap.size fp I (fun c xs W => c = .exit k ∧ Jx xs W) (pre ++ [x]) W) a' W)
    (Fin : World → Prop) (hdone : ∀ (fp : List Nat) (xs : List α) (W : World), E xs W → I fp xs W → Fin W)
    (hE : ∀ xs (W : World) (l : Nat) (o o' : Obj), w.heap.size ≤ l → W.heap[l]? = some o → o.isCells = false → E xs W → E xs (W.putObj l o'))
    (hstop : ∀ (xs : List α) (W : World), Jx xs W → Fin W)
    (hfin : ∀ (D : Nat) (W : World), w.heap.size ≤ D → Fin W → W.heap[D]? = some (.deferred (some [])) → Q .normal { a with defers := { target := .collected D, args := #[] } :: a.defers } W) :
    (Code.rangeFunc g ps assign body).wpIn Fence.wide n P Q a w :=
  wpIn_range hg eg hseq hps I (fun c xs W => c = .exit k ∧ Jx xs W) hI (fun _ s W W' row hs hgr hr => ⟨hs.1, hJ s W W' row hs.2 hgr hr⟩) hRd fp0 hfp h0 (Ax a.tmps) hAx hassign hbody
    (fun D fp xs W hD hE' hI' hK => hfin D W hD (hdone fp xs W hE' hI') hK) hE
    (fun D c pre W hD h hK => by
      obtain ⟨rfl, hj⟩ := h
      exact wpIn_exit (hQ _ _ (hfin D W hD (hstop pre W hj) hK)))
end
end Go.Proofs.Ytnldbplphgfpeaa
