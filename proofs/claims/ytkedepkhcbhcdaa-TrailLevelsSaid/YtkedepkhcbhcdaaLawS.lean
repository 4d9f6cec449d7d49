/- Trails: law 9, its argument opened. -/
import Derived.Test.YtkedepkhcbhcdaaTrlS
import Derived.Test.YtkedepkhcbhcdaaOpen
namespace Go.Proofs.Ytkedepkhcbhcdaa
open Go Go.RowKit Go.Shelf
section
variable {H : Type} {enc : TypeId × Value → H} {W : World} {base : Nat} {v0 : Value} {d0 : DataW H} {p0 : List MemPlace}
theorem levels_open (h0 : DataW.Trod enc Try.prog W 0 (fun _ => true) true 38 v0 d0 p0) (k0 : Value.okWide Try.prog W .any base 38 v0) (hlt : ∀ x ∈ p0, x.block < W.heap.size) :
    Calls Try.prog 9 #[v0] W fun e w' => e = .returned (.bool true) ∧ Below W.heap.size W w' := by
  obtain ⟨A, n, c, l, rfl, hr, hn, hc, hok⟩ := ints_open Try.underlying38 Try.underlying5 (by kernel_rfl) h0 k0 hlt
  exact law_levels A n c W.heap.size l W hr (Nat.le_refl _) (by omega) hn (fun x hx => bounds_u8 (hok x hx))
end
end Go.Proofs.Ytkedepkhcbhcdaa
