/- A list of operations walked unfenced holds in a round, where none defers. -/
import Derived.Test.YtlcfgpkokaiogaaLift
namespace Go.Proofs.Ytlcfgpkokaiogaa
open Go Go.RowKit Go.Shelf
set_option linter.unusedVariables false
set_option linter.unusedSimpArgs false
section
variable {P : Program} {ops : Array Oper} {Q : Exit → Act → World → Prop} {l n : Nat}
theorem list_lift (hQ : ∀ a w, ¬ Q .outgrown a w) : ∀ (L : List Oper) (a : Act) (w : World), (∀ o ∈ L, ∀ c, o.op ≠ .defer c) → wpList P ops Q L a w → wpListIn (Fence.wide.inRound l) n P ops Q L a w
  | [], _, _, _, h => h
  | o :: L, a, w, hL, h => by
    unfold wpList at h
    unfold wpListIn
    split
    · rename_i hw
      rw [if_pos hw] at h
      rcases h with h | ⟨_, a', w', h⟩
      · exact Oper.wpIn_mono (fun a w h' => list_lift hQ L a w (fun o ho => hL o (by simp [ho])) h') (oper_lift (hL o (by simp)) h)
      · exact absurd h (hQ a' w')
    · rename_i hw
      rw [if_neg hw] at h
      exact ⟨fun _ _ => trivial, list_lift hQ L _ w (fun o ho => hL o (by simp [ho])) h⟩
/-- No operation of a list defers: a quick test. -/
def noDeferL (L : List Oper) : Bool := L.all fun o => match o.op with | .defer _ => false | _ => true
theorem noDeferL_spec {L : List Oper} (h : noDeferL L = true) : ∀ o ∈ L, ∀ c, o.op ≠ .defer c := by
  intro o ho c hc
  have := List.all_eq_true.1 h o ho
  rw [hc] at this
  cases this
/-- A region that draws no order, in a round: walked unfenced. -/
theorem wpIn_round_lit {id : Nat} {a : Act} {w : World} {L : List Oper} (hd : noDeferL L = true) (hQ : ∀ a w, ¬ Q .outgrown a w) (h : wpList P L.toArray Q L a w) : (Code.region id L.toArray false).wpIn (Fence.wide.inRound l) n P Q a w :=
  wpIn_region_lit (list_lift hQ L a w (noDeferL_spec hd) h)
end
theorem Only.undrew {fp : List Nat} {W W' : World} (h : Only fp W.drew W') : Only fp W W' := ⟨h.os, h.tape, h.output, h.size, h.block⟩
end Go.Proofs.Ytlcfgpkokaiogaa
