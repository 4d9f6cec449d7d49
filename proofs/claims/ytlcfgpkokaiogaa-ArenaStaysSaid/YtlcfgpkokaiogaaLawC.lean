/- Arenas: law 5, its arguments opened. -/
import Derived.Test.YtlcfgpkokaiogaaArS
import Derived.Test.YtlcfgpkokaiogaaNestO
namespace Go.Proofs.Ytlcfgpkokaiogaa
open Go Go.RowKit Go.Shelf
section
variable {H : Type} {enc : TypeId × Value → H} {W : World} {base : Nat} {v0 v1 : Value} {d0 d1 : DataW H} {p0 p1 : List MemPlace}
theorem stays_open (h0 : DataW.Trod enc Try.prog W 0 (fun _ => true) true 51 v0 d0 p0) (k0 : Value.okWide Try.prog W .any base 51 v0) (hlt : ∀ x ∈ p0, x.block < W.heap.size)
    (h1 : DataW.Trod enc Try.prog W 0 (fun _ => true) true 52 v1 d1 p1) (k1 : Value.okWide Try.prog W .any base 52 v1) (hlt1 : ∀ x ∈ p1, x.block < W.heap.size) :
    Calls Try.prog 5 #[v0, v1] W fun e w' => e = .returned (.bool true) ∧ Below W.heap.size W w' := by
  obtain ⟨A, n, c, vs, ll, rfl, hr, hn, hm, hN⟩ := nest_open h0 k0 hlt
  obtain ⟨A2, n2, c2, l, rfl, hr2, hn2, hc2, hok⟩ := ints_open Try.underlying52 Try.underlying5 (by kernel_rfl) h1 k1 hlt1
  exact law_stays W hr hN (Nat.le_refl _) hm hn hr2 (Nat.le_refl _) (by omega) hn2 (fun x hx => bounds_u8 (hok x hx))
end
end Go.Proofs.Ytlcfgpkokaiogaa
