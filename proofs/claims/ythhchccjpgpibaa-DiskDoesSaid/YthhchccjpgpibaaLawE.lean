/- Disks: law 7, its arguments opened. -/
import Derived.Test.YthhchccjpgpibaaDiskAF
import Derived.Test.YthhchccjpgpibaaDiskO
import Derived.Test.YthhchccjpgpibaaOpen
namespace Go.Proofs.Ythhchccjpgpibaa
open Go Go.RowKit Go.Shelf
set_option linter.unusedVariables false
set_option linter.unusedSimpArgs false
set_option maxHeartbeats 4000000
theorem law_does (b wd : Int) (hb : -9223372036854775808 ≤ b ∧ b ≤ 9223372036854775807) (hwd : -9223372036854775808 ≤ wd ∧ wd ≤ 9223372036854775807) (A : Option Addr) (n c : Nat) (l : List Int) (A' : Option Addr) (m c' : Nat) (la : List ActV) (w : World)
    (hrd : Reads w w.heap.size 1 A n (l.map (Value.int .u32))) (hra : Reads w w.heap.size 3 A' m (encAs la)) (hl : ∀ x ∈ l, 0 ≤ x ∧ x ≤ 4294967295) (hla : ∀ x ∈ la, ActV.Ok x) (hn63 : n ≤ 9223372036854775807) (hm63 : m ≤ 9223372036854775807) :
    Calls Try.prog 7 #[.int .i64 b, .int .i64 wd, .slice A n c, .slice A' m c'] w fun e w' => e = .returned (.bool true) ∧ Below w.heap.size w w' := by
  have h27 := does_ok b wd hb hwd A n c w.heap.size l A' m c' w.heap.size la w hrd (Nat.le_refl _) hra (Nat.le_refl _) hl hla hn63 hm63
  have haw := fun W => awake_ok W
  replace haw := Lib.hid haw
  replace h27 := Lib.hid h27
  clear hrd hra hl hla
  go_enter Try.func7, Try.ntmps7
  go_wp2_with (first
    | (go_at_call 27; (with_reducible refine h27.out.mono ?_); rintro e w1 ⟨rfl, hB1⟩)
    | (refine ⟨trivial, ?_⟩; go_at_call 10; refine (haw.out _).mono ?_; rintro e w2 ⟨rfl, hB2⟩)
    | (go_at_call 10; refine (haw.out _).mono ?_; rintro e w2 ⟨rfl, hB2⟩))
  go_ret
  exact ⟨rfl, below_and hB1 hB2⟩
section
variable {H : Type} {enc : TypeId × Value → H} {W : World} {base : Nat} {v2 v3 : Value} {d2 d3 : DataW H} {p2 p3 : List MemPlace}
theorem does_open (h2 : DataW.Trod enc Try.prog W 0 (fun _ => true) true 54 v2 d2 p2) (k2 : Value.okWide Try.prog W .any base 54 v2) (hlt2 : ∀ x ∈ p2, x.block < W.heap.size) (h3 : DataW.Trod enc Try.prog W 0 (fun _ => true) true 23 v3 d3 p3) (k3 : Value.okWide Try.prog W .any base 23 v3) (hlt3 : ∀ x ∈ p3, x.block < W.heap.size) (a b : Int) (ha : -9223372036854775808 ≤ a ∧ a ≤ 9223372036854775807) (hb : -9223372036854775808 ≤ b ∧ b ≤ 9223372036854775807) :
    Calls Try.prog 7 #[.int .i64 a, .int .i64 b, v2, v3] W fun e w' => e = .returned (.bool true) ∧ Below W.heap.size W w' := by
  obtain ⟨A, n, cp, l, rfl, hr, hn, hcp, hok⟩ := ints_open Try.underlying54 Try.underlying29 (by kernel_rfl) h2 k2 hlt2
  obtain ⟨A', m, c', la, rfl, hr', hn', hc', hok'⟩ := acts_open h3 k3 hlt3
  exact law_does a b ha hb A n cp l A' m c' la W hr hr' (fun x hx => bounds_u32 (hok x hx)) hok' (by omega) (by omega)
end
end Go.Proofs.Ythhchccjpgpibaa
