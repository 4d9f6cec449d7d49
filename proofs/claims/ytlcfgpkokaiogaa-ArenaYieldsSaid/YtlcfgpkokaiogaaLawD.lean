/- Arenas: law 6, its arguments opened. -/
import Derived.Test.YtlcfgpkokaiogaaArU
import Derived.Test.YtlcfgpkokaiogaaNestO
namespace Go.Proofs.Ytlcfgpkokaiogaa
open Go Go.RowKit Go.Shelf
section
variable {H : Type} {enc : TypeId × Value → H} {W : World} {base : Nat} {v0 : Value} {d0 : DataW H} {p0 : List MemPlace}
theorem yields_open (h0 : DataW.Trod enc Try.prog W 0 (fun _ => true) true 51 v0 d0 p0) (k0 : Value.okWide Try.prog W .any base 51 v0) (hlt : ∀ x ∈ p0, x.block < W.heap.size) (s : Int) (hs : 0 ≤ s ∧ s ≤ 255) (a : Int) (ha : 0 ≤ a ∧ a ≤ 255) (g : Int) (hg : 0 ≤ g ∧ g ≤ 255) :
    Calls Try.prog 6 #[v0, .int .u8 s, .int .u8 a, .int .u8 g] W fun e w' => e = .returned (.bool true) ∧ Below W.heap.size W w' := by
  obtain ⟨A, n, c, vs, ll, rfl, hr, hn, hm, hN⟩ := nest_open h0 k0 hlt
  obtain ⟨s, rfl⟩ := Int.eq_ofNat_of_zero_le hs.1
  obtain ⟨a, rfl⟩ := Int.eq_ofNat_of_zero_le ha.1
  obtain ⟨g, rfl⟩ := Int.eq_ofNat_of_zero_le hg.1
  exact law_yields W hr hN (Nat.le_refl _) hm hn s a g (by omega) (by omega) (by omega)
end
end Go.Proofs.Ytlcfgpkokaiogaa
