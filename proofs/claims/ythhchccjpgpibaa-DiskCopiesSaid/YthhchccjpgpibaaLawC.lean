/- Disks: law 6, its arguments opened. -/
import Derived.Test.YthhchccjpgpibaaDiskS
import Derived.Test.YthhchccjpgpibaaDiskO
namespace Go.Proofs.Ythhchccjpgpibaa
open Go Go.RowKit Go.Shelf
section
variable {H : Type} {enc : TypeId × Value → H} {W : World} {base : Nat} {v0 v1 v2 : Value} {d0 d1 d2 : DataW H} {p0 p1 p2 : List MemPlace}
theorem copies_open (h0 : DataW.Trod enc Try.prog W 0 (fun _ => true) true 22 v0 d0 p0) (k0 : Value.okWide Try.prog W .any base 22 v0) (h1 : DataW.Trod enc Try.prog W 0 (fun _ => true) true 23 v1 d1 p1) (k1 : Value.okWide Try.prog W .any base 23 v1) (hlt : ∀ x ∈ p1, x.block < W.heap.size)
    (h2 : DataW.Trod enc Try.prog W 0 (fun _ => true) true 23 v2 d2 p2) (k2 : Value.okWide Try.prog W .any base 23 v2) (hlt2 : ∀ x ∈ p2, x.block < W.heap.size) :
    Calls Try.prog 6 #[v0, v1, v2] W fun e w' => e = .returned (.bool true) ∧ Below W.heap.size W w' := by
  obtain ⟨f0, f1, f2, rfl, b0, b1, b2⟩ := first_open h0 k0
  obtain ⟨A, n, c, l, rfl, hr, hn, hc, hok⟩ := acts_open h1 k1 hlt
  obtain ⟨A2, n2, c2, l2, rfl, hr2, hn2, hc2, hok2⟩ := acts_open h2 k2 hlt2
  exact law_copies f0 f1 f2 b0 b1 b2 A n c l A2 n2 c2 l2 W hr hn hc hok hr2 hn2 hc2 hok2
end
end Go.Proofs.Ythhchccjpgpibaa
