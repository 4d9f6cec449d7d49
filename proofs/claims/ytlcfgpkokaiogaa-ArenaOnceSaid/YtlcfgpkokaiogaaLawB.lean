/- Arenas: law 7, its arguments opened. -/
import Derived.Test.YtlcfgpkokaiogaaArR
import Derived.Test.YtlcfgpkokaiogaaNestO
namespace Go.Proofs.Ytlcfgpkokaiogaa
open Go Go.RowKit Go.Shelf
section
variable {H : Type} {enc : TypeId × Value → H} {W : World} {base : Nat} {v0 : Value} {d0 : DataW H} {p0 : List MemPlace}
theorem once_open (h0 : DataW.Trod enc Try.prog W 0 (fun _ => true) true 51 v0 d0 p0) (k0 : Value.okWide Try.prog W .any base 51 v0) (hlt : ∀ x ∈ p0, x.block < W.heap.size) (b : Int) (hb : 0 ≤ b ∧ b ≤ 255) (q : Int) (hq : -9223372036854775808 ≤ q ∧ q ≤ 9223372036854775807) :
    Calls Try.prog 7 #[v0, .int .u8 b, .int .i64 q] W fun e w' => e = .returned (.bool true) ∧ Below W.heap.size W w' := by
  obtain ⟨A, n, c, vs, ll, rfl, hr, hn, hm, hN⟩ := nest_open h0 k0 hlt
  obtain ⟨b, rfl⟩ := Int.eq_ofNat_of_zero_le hb.1
  exact law_once W hr hN (Nat.le_refl _) hm hn b (by omega) q hq
end
end Go.Proofs.Ytlcfgpkokaiogaa
