/- Arenas: arguments opened, a slice of slices of numbers. -/
import Derived.Test.YtlcfgpkokaiogaaArN
import Derived.Test.YtlcfgpkokaiogaaOpen
import Derived.Deep.Matrix
namespace Go.Proofs.Ytlcfgpkokaiogaa
open Go Go.RowKit Go.Shelf
open Go.ChangeShapes Go.WideShapes Go.Deep
set_option linter.unusedVariables false
set_option linter.unusedSimpArgs false
section
variable {H : Type} {enc : TypeId × Value → H} {W : World}
theorem nest_open {base : Nat} {v : Value} {d : DataW H} {p : List MemPlace} (h : DataW.Trod enc Try.prog W 0 (fun _ => true) true 51 v d p) (k : Value.okWide Try.prog W .any base 51 v) (hlt : ∀ x ∈ p, x.block < W.heap.size) :
    ∃ (A : Option Addr) (n c : Nat) (vs : List Value) (ll : List (List Int)), v = .slice A n c ∧ Reads W W.heap.size 1 A n vs ∧ n ≤ c ∧ n ≤ 9223372036854775807 ∧ Nest W W.heap.size vs ll := by
  obtain ⟨A0, n0, c0, rfl⟩ := okWide_slice Try.underlying51 k
  obtain ⟨fuel, hf⟩ := h
  rcases open_int_rows Try.underlying51 Try.underlying52 Try.underlying5 (by kernel_rfl) (by kernel_rfl) hf with ⟨h1, _⟩ | ⟨a, len, cap, A, L, C, Z, hcs, _, hl, hm, hx, hat⟩
  · simp [Value.cells] at h1
    obtain ⟨rfl, rfl, rfl⟩ := h1
    exact ⟨none, 0, 0, [], [], rfl, ⟨by simp, fun h => absurd h (by omega)⟩, Nat.le_refl _, by omega, ⟨rfl, fun k l hk => by simp at hk⟩⟩
  · simp [Value.cells] at hcs
    obtain ⟨rfl, rfl, rfl⟩ := hcs
    have hml : maxLen ≤ 9223372036854775807 := by decide
    have hp := (Prod.mk.inj hx).2
    refine ⟨some a, n0, c0, (List.range n0).map fun r => .slice (A r) (L r) (C r), (List.range n0).map fun r => (Z r).take (L r), rfl, ⟨by simp, fun hn => ⟨a, rfl, ?_, fun j u hu => ?_⟩⟩, hl, by omega, by simp, fun r l hk => ?_⟩
    · exact hlt (.cell a.block (a.off + 0)) (by rw [hp]; exact List.mem_append_left _ (MemPlace.mem_row.2 ⟨0, by omega, rfl⟩))
    · rw [List.getElem?_map] at hu
      by_cases hj : j < n0
      · rw [List.getElem?_range hj] at hu
        simp at hu
        rw [← hu]
        exact (hat j (by omega)).1
      · rw [List.getElem?_eq_none (by simp; omega)] at hu
        cases hu
    · by_cases hj : r < n0
      · rw [List.getElem?_map, List.getElem?_range hj] at hk
        simp at hk
        obtain ⟨h1, h2, h3, h4, h5, h6, h7⟩ := hat r (by omega)
        refine ⟨A r, L r, C r, by rw [List.getElem?_map, List.getElem?_range hj]; rfl, ⟨by rw [← hk]; simp; omega, fun hn => ?_⟩, h2, by omega, fun x hx' => ?_⟩
        · cases hA : A r with
          | none => have := h6 hA; omega
          | some a' =>
            refine ⟨a', rfl, ?_, fun j u hu => ?_⟩
            · exact hlt (.cell a'.block (a'.off + 0)) (by
                rw [hp]
                refine List.mem_append_right _ (List.mem_flatMap.2 ⟨r, List.mem_range.2 (by omega), ?_⟩)
                rw [hA]
                exact MemPlace.mem_row.2 ⟨0, by omega, rfl⟩)
            · rw [List.getElem?_map, ← hk, List.getElem?_take] at hu
              split at hu
              · rename_i hjl
                rw [(h7 a' hA).2 j (by omega)]
                rw [List.getElem?_eq_getElem (by omega)] at hu
                simp at hu
                rw [← hu, List.getD_eq_getElem?_getD, List.getElem?_eq_getElem (by omega)]
                rfl
              · cases hu
        · rw [← hk] at hx'
          exact bounds_u8 (h5 x (List.mem_of_mem_take hx'))
      · rw [List.getElem?_eq_none (by simp; omega)] at hk
        cases hk
end
end Go.Proofs.Ytlcfgpkokaiogaa
