/- Disks: law 9, its arguments opened. -/
import Derived.Test.YthhchccjpgpibaaDiskV
import Derived.Test.YthhchccjpgpibaaDiskO
namespace Go.Proofs.Ythhchccjpgpibaa
open Go Go.RowKit Go.Shelf
section
variable {H : Type} {enc : TypeId × Value → H} {W : World} {base : Nat} {v0 v1 : Value} {d0 d1 : DataW H} {p0 p1 : List MemPlace}
theorem barriers_open (h0 : DataW.Trod enc Try.prog W 0 (fun _ => true) true 22 v0 d0 p0) (k0 : Value.okWide Try.prog W .any base 22 v0) (h1 : DataW.Trod enc Try.prog W 0 (fun _ => true) true 23 v1 d1 p1) (k1 : Value.okWide Try.prog W .any base 23 v1) (hlt : ∀ x ∈ p1, x.block < W.heap.size) :
    Calls Try.prog 9 #[v0, v1] W fun e w' => e = .returned (.bool true) ∧ Below W.heap.size W w' := by
  obtain ⟨f0, f1, f2, rfl, b0, b1, b2⟩ := first_open h0 k0
  obtain ⟨A, n, c, l, rfl, hr, hn, hc, hok⟩ := acts_open h1 k1 hlt
  exact law_barriers f0 f1 f2 b0 b1 b2 A n c l W hr hn hc hok
end
end Go.Proofs.Ythhchccjpgpibaa
