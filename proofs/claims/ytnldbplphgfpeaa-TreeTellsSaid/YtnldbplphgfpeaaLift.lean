/- A region that draws its order, in a round of a range over a function: reads and quiet calls, and then a tail in one order. -/
import Derived.StillTailTactics
import Derived.OrdersIn
import Derived.Test.YtnldbplphgfpeaaRange
namespace Go.Proofs.Ytnldbplphgfpeaa
open Go Go.RowKit Go.Shelf
set_option linter.unusedVariables false
set_option linter.unusedSimpArgs false
section
variable {P : Program} {ops : Array Oper} {md : Region.Mode} {Q : Exit → Act → World → Prop} {l n : Nat}
/-- No operation defers. -/
def noDefer (ops : Array Oper) : Bool := ops.all fun o => match o.op with | .defer _ => false | _ => true
theorem noDefer_at (h : noDefer ops = true) {i : Nat} {o : Oper} (ho : ops[i]? = some o) : ∀ c, o.op ≠ .defer c := by
  intro c hc
  obtain ⟨hi, hg⟩ := Array.getElem?_eq_some_iff.1 ho
  have := (Array.all_eq_true.1 h) i hi
  rw [hg, hc] at this
  cases this
theorem oper_lift {o : Oper} (hd : ∀ c, o.op ≠ .defer c) {a : Act} {w : World} {K : Act → World → Prop} (h : o.wp P a w K Q) : o.wpIn (Fence.wide.inRound l) n P a w K Q := by
  refine ⟨fun _ _ => trivial, ?_⟩
  rw [Oper.semAt_eq _ _ _ hd]
  unfold Oper.wp at h
  generalize (execOp a.eval o).run P w = r at h ⊢
  cases r with
  | halt x w' => cases x <;> exact h
  | ok x w' =>
    cases x with
    | enter f args => exact ⟨no_depth, (callsIn_wide.2 h).inRound l⟩
    | row row args => exact ⟨no_depth, fun c cs _ => by
        obtain ⟨v, w'', r, s⟩ := h c cs
        exact ⟨v, w'', r, stepsIn_wide.2 s⟩⟩
    | round l f tmps assign body => exact h.elim
    | _ => exact h
theorem any_lift (hd : noDefer ops = true) (hQ : ∀ a w, ¬ Q .outgrown a w) : ∀ (fuel : Nat) (listed : Array Bool) (a : Act) (w : World), wpAny P md ops Q fuel listed a w → wpAnyIn (Fence.wide.inRound l) n P md ops Q fuel listed a w
  | 0, _, _, _, h => h
  | fuel + 1, listed, a, w, h => by
    refine ⟨h.1, fun i hi => ?_⟩
    have h2 := h.2 i hi
    unfold wpOp at h2
    unfold wpOpIn
    cases ho : ops[i]? with
    | none =>
      rw [ho] at h2
      exact any_lift hd hQ fuel _ a w h2
    | some o =>
      rw [ho] at h2
      simp only at h2 ⊢
      split
      · rename_i hw
        rw [if_pos hw] at h2
        rcases h2 with h2 | ⟨_, a', w', h2⟩
        · exact Oper.wpIn_mono (fun a w h' => any_lift hd hQ fuel _ a w h') (oper_lift (noDefer_at hd ho) h2)
        · exact absurd h2 (hQ a' w')
      · rename_i hw
        rw [if_neg hw] at h2
        exact ⟨fun _ _ => trivial, any_lift hd hQ fuel _ _ w h2⟩
/-- Reads and quiet calls first, one tail behind them: all orders. -/
theorem tail_any {L : List Oper} {a : Act} {w : World} (k : Nat) (hB : Region.lexTailB md L.toArray k = true) (h : wpStill P L.toArray w (fun a' => wpList P L.toArray Q (L.drop k) a' w) (L.take k) a) :
    wpAny P md L.toArray Q L.toArray.size (Array.replicate L.toArray.size false) a w := by
  unfold Region.lexTailB at hB
  rw [Bool.and_eq_true, Bool.and_eq_true, Bool.and_eq_true, Bool.and_eq_true, decide_eq_true_eq] at hB
  have hk : k < L.length := by simpa using hB.1.1.1.2
  have hlen : (L.take k).length = k := by rw [List.length_take]; omega
  have hrest : (L.drop k).length = L.toArray.size - k := by simp
  have start : HeadInv md L.toArray k (Array.replicate L.toArray.size false) :=
    ⟨by simp, fun j oj _ hl => (by rw [getD_replicate_false] at hl; cases hl), fun t _ ht => getD_in (by simpa using ht) (getD_replicate_false _ _)⟩
  have head := wpAnyL_lex (P := P) (g := L.toArray.size - k) hB.1.1.1.1 hB.1.1.2 hB.1.2 hB.1.1.1.2 (L.take k) 0 _ a
    (fun j hj => by rw [hlen] at hj; simp [hj]) (by omega) start (by rw [hlen]; exact hB.2) h
  have all := wpAny_of_head (Q' := Q) (g := L.toArray.size - k) (fun listed a' hL => by
    have tail := wpAny_of_seq (P := P) (md := md) (Q' := Q) (L.drop k) k listed a' w (fun j => by simp [List.getElem?_drop]) (by rw [hrest]; exact hL.1) hL.2
    rw [hrest] at tail
    exact tail) _ _ _ head
  have hs : (L.take k).length + (L.toArray.size - k) = L.toArray.size := by rw [hlen]; simp; omega
  rw [hs] at all
  exact all
theorem wpIn_round_tail {id : Nat} {a : Act} {w : World} {L : List Oper} (k : Nat) (hm : P.follows .mixedOrders = true) (hB : Region.lexTailB .any L.toArray k = true) (hd : noDefer L.toArray = true) (hQ : ∀ a w, ¬ Q .outgrown a w)
    (h : wpStill P L.toArray w.drew (fun a' => wpList P L.toArray Q (L.drop k) a' w.drew) (L.take k) a) : (Code.region id L.toArray true).wpIn (Fence.wide.inRound l) n P Q a w :=
  wpIn_region_any hm (any_lift hd hQ _ _ a _ (tail_any k hB h))
end
end Go.Proofs.Ytnldbplphgfpeaa
