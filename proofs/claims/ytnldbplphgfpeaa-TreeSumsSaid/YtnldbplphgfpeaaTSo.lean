/- Trees: the law on sums, its arguments opened. -/
import Derived.Test.YtnldbplphgfpeaaTSu
import Derived.Test.YtnldbplphgfpeaaTLf
namespace Go.Proofs.Ytnldbplphgfpeaa
open Go Go.RowKit Go.Shelf
set_option maxRecDepth 100000
section
variable {H : Type} {enc : TypeId × Value → H} {W : World} {base : Nat} {v0 v1 : Value} {d0 d1 : DataW H} {p0 p1 : List MemPlace}
theorem sums_open (h0 : DataW.Trod enc Try.prog W 0 (fun _ => true) true 22 v0 d0 p0) (k0 : Value.okWide Try.prog W .any base 22 v0) (hlt0 : ∀ x ∈ p0, x.block < W.heap.size)
    (h1 : DataW.Trod enc Try.prog W 0 (fun _ => true) true 22 v1 d1 p1) (k1 : Value.okWide Try.prog W .any base 22 v1) (hlt1 : ∀ x ∈ p1, x.block < W.heap.size) :
    Calls Try.prog 4 #[v0, v1] W fun e w' => e = .returned (.bool true) ∧ Below W.heap.size W w' := by
  obtain ⟨A, n, c, bs, rfl, hb⟩ := byt_open h0 k0 hlt0
  obtain ⟨A', n', c', bs', rfl, hb'⟩ := byt_open h1 k1 hlt1
  exact sums_ok _ _ _ _ _ _ _ _ W hb hb'
end
end Go.Proofs.Ytnldbplphgfpeaa
