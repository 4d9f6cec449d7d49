/- Arguments opened: a slice of numbers. -/
import Derived.Test.YtnldbplphgfpeaaMem
import Derived.Deep.Slices
import Derived.ChangeSlices
import Derived.ChangeSame
import Derived.OpenShut
import Derived.ChangeShapes
namespace Go.Proofs.Ytnldbplphgfpeaa
open Go Go.RowKit
open Go.ChangeShapes Go.WideShapes Go.Deep
set_option linter.unusedVariables false
set_option linter.unusedSimpArgs false
section
variable {H : Type} {enc : TypeId × Value → H} {P : Program} {W : World}
theorem ints_open {t e : TypeId} {kd : IntKind} (ht : P.underlying t = some (.slice e)) (he : P.underlying e = some (.int kd)) (hc : P.cellsOf e = 1) {base : Nat} {v : Value} {d : DataW H} {p : List MemPlace}
    (h : DataW.Trod enc P W 0 (fun _ => true) true t v d p) (k : Value.okWide P W .any base t v) (hlt : ∀ x ∈ p, x.block < W.heap.size) :
    ∃ (A : Option Addr) (n c : Nat) (l : List Int), v = .slice A n c ∧ Reads W W.heap.size 1 A n (l.map (Value.int kd)) ∧ n ≤ c ∧ c ≤ 9223372036854775807 ∧ ∀ x ∈ l, (Lit.int kd x).wf = true := by
  obtain ⟨A0, n0, c0, rfl⟩ := okWide_slice ht k
  obtain ⟨fuel, hf⟩ := h
  rcases open_ints ht he hc hf with ⟨h1, _⟩ | ⟨a, len, cap, zs, hcs, _, hl, hm, hz, hx, hat, hwf⟩
  · simp [Value.cells] at h1
    obtain ⟨rfl, rfl, rfl⟩ := h1
    exact ⟨none, 0, 0, [], rfl, ⟨by simp, fun h => absurd h (by omega)⟩, Nat.le_refl _, by omega, by simp⟩
  · simp [Value.cells] at hcs
    obtain ⟨rfl, rfl, rfl⟩ := hcs
    have hml : maxLen ≤ 9223372036854775807 := by decide
    simp only [if_true] at hz
    refine ⟨some a, n0, c0, zs.take n0, rfl, ⟨by simp; omega, fun hn => ⟨a, rfl, ?_, fun j u hu => ?_⟩⟩, hl, Nat.le_trans hm hml, fun x hx' => hwf x (List.mem_of_mem_take hx')⟩
    · have hp := (Prod.mk.inj hx).2
      exact hlt (.cell a.block (a.off + 0)) (by rw [hp]; exact MemPlace.mem_row.2 ⟨0, by omega, rfl⟩)
    · rw [List.getElem?_map, List.getElem?_take] at hu
      split at hu
      · rename_i hj
        rw [hat j (by omega)]
        rw [List.getElem?_eq_getElem (by omega)] at hu
        simp at hu
        rw [← hu, List.getD_eq_getElem?_getD, List.getElem?_eq_getElem (by omega)]
        rfl
      · cases hu
end
end Go.Proofs.Ytnldbplphgfpeaa
