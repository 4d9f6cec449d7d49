/- Trees: the law on copies, its arguments opened. -/
import Derived.Test.YtnldbplphgfpeaaTLd
namespace Go.Proofs.Ytnldbplphgfpeaa
open Go Go.RowKit Go.Shelf
set_option maxRecDepth 100000
section
variable {H : Type} {enc : TypeId × Value → H} {W : World} {base : Nat} {v0 v1 : Value} {d0 d1 : DataW H} {p0 p1 : List MemPlace}
theorem byt_open {v : Value} {d : DataW H} {p : List MemPlace} (h0 : DataW.Trod enc Try.prog W 0 (fun _ => true) true 22 v d p) (k0 : Value.okWide Try.prog W .any base 22 v) (hlt : ∀ x ∈ p, x.block < W.heap.size) :
    ∃ (A : Option Addr) (n c : Nat) (bs : List Nat), v = .slice A n c ∧ Byt W A n c bs := by
  obtain ⟨A, n, cp, l, rfl, hr, hn, hcp, hok⟩ := ints_open Try.underlying22 Try.underlying5 (by kernel_rfl) h0 k0 hlt
  have hb : ∀ x ∈ l, 0 ≤ x ∧ x < 256 := fun x hx => by
    have := bounds_u8 (hok x hx)
    omega
  refine ⟨A, n, cp, l.map Int.toNat, rfl, ?_, fun b hb' => ?_, hn, hcp⟩
  · have e : (l.map Int.toNat).map (fun (b : Nat) => Value.int .u8 (b : Int)) = l.map (Value.int .u8) := by
      rw [List.map_map]
      refine List.map_congr_left fun x hx => ?_
      have := (hb x hx).1
      simp only [Function.comp]
      rw [Int.toNat_of_nonneg this]
    rw [e]; exact hr
  · obtain ⟨x, hx, rfl⟩ := List.mem_map.1 hb'
    have := hb x hx
    omega
theorem copies_open (h0 : DataW.Trod enc Try.prog W 0 (fun _ => true) true 22 v0 d0 p0) (k0 : Value.okWide Try.prog W .any base 22 v0) (hlt0 : ∀ x ∈ p0, x.block < W.heap.size)
    (h1 : DataW.Trod enc Try.prog W 0 (fun _ => true) true 22 v1 d1 p1) (k1 : Value.okWide Try.prog W .any base 22 v1) (hlt1 : ∀ x ∈ p1, x.block < W.heap.size) :
    Calls Try.prog 3 #[v0, v1] W fun e w' => e = .returned (.bool true) ∧ Below W.heap.size W w' := by
  obtain ⟨A, n, c, bs, rfl, hb⟩ := byt_open h0 k0 hlt0
  obtain ⟨A', n', c', bs', rfl, hb'⟩ := byt_open h1 k1 hlt1
  exact copies_ok _ _ _ _ _ _ _ _ W hb hb'
end
end Go.Proofs.Ytnldbplphgfpeaa
