/- Trails: law 6, its arguments opened. -/
import Derived.Test.YtkedepkhcbhcdaaTrlT
import Derived.Test.YtkedepkhcbhcdaaOpen
namespace Go.Proofs.Ytkedepkhcbhcdaa
open Go Go.RowKit Go.Shelf
section
variable {H : Type} {enc : TypeId × Value → H} {W : World} {base : Nat} {v0 : Value} {d0 : DataW H} {p0 : List MemPlace}
theorem yields_open (h0 : DataW.Trod enc Try.prog W 0 (fun _ => true) true 38 v0 d0 p0) (k0 : Value.okWide Try.prog W .any base 38 v0) (hlt : ∀ x ∈ p0, x.block < W.heap.size) (a b c : Int) (ha : 0 ≤ a ∧ a ≤ 255) (hb : 0 ≤ b ∧ b ≤ 255) (hc : 0 ≤ c ∧ c ≤ 255) :
    Calls Try.prog 6 #[v0, .int .u8 a, .int .u8 b, .int .u8 c] W fun e w' => e = .returned (.bool true) ∧ Below W.heap.size W w' := by
  obtain ⟨A, n, cp, l, rfl, hr, hn, hcp, hok⟩ := ints_open Try.underlying38 Try.underlying5 (by kernel_rfl) h0 k0 hlt
  exact law_yields A n cp W.heap.size l W hr (Nat.le_refl _) (by omega) hn (fun x hx => bounds_u8 (hok x hx)) a b c ha hb hc
end
end Go.Proofs.Ytkedepkhcbhcdaa
