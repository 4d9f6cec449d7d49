/- Trees: the law on names changed, its arguments opened. -/
import Derived.Test.YtnldbplphgfpeaaTRe
import Derived.Test.YtnldbplphgfpeaaTLf
namespace Go.Proofs.Ytnldbplphgfpeaa
open Go Go.RowKit Go.Shelf
set_option maxRecDepth 100000
section
variable {H : Type} {enc : TypeId × Value → H} {W : World} {base : Nat} {v0 : Value} {d0 : DataW H} {p0 : List MemPlace}
theorem renames_open (h0 : DataW.Trod enc Try.prog W 0 (fun _ => true) true 22 v0 d0 p0) (k0 : Value.okWide Try.prog W .any base 22 v0) (hlt0 : ∀ x ∈ p0, x.block < W.heap.size) (a : Int) (ha : 0 ≤ a ∧ a ≤ 255) :
    Calls Try.prog 6 #[v0, .int .u8 a] W fun e w' => e = .returned (.bool true) ∧ Below W.heap.size W w' := by
  obtain ⟨A, n, c, bs, rfl, hb⟩ := byt_open h0 k0 hlt0
  have hw : ((a.toNat : Nat) : Int) = a := Int.toNat_of_nonneg ha.1
  have h := renames_ok A n c bs a.toNat (by omega) W hb
  rw [hw] at h
  exact h
end
end Go.Proofs.Ytnldbplphgfpeaa
