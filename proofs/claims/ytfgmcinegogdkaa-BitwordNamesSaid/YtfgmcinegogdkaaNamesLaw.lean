/- The walk of BitwordNames over whatever reads as its arguments. -/
import Derived.Test.YtfgmcinegogdkaaNames
import Derived.Test.YtfgmcinegogdkaaArgs
import Derived.Deep.Slices
namespace Go.Proofs.Ytfgmcinegogdkaa
open Go.RowKit Go.WideShapes Go.ChangeShapes Go.Deep
set_option linter.unusedVariables false
theorem Try.cells4 : Try.prog.cellsOf 4 = 1 := by kernel_rfl
/-- A slice of truths that came in: nil or short of bounds, or its cells. -/
theorem bools_open {H : Type} {enc : TypeId × Value → H} {w : World} {v : Value} {d : DataW H} {p : List MemPlace} {base : Nat} (h : DataW.Trod enc Try.prog w 0 (fun _ => true) true 35 v d p) (hk : Value.okWide Try.prog w .any base 35 v) (hlt : ∀ x ∈ p, x.block < w.heap.size) :
    ∃ (a : Option Addr) (len cap : Nat), v = .slice a len cap ∧ len ≤ 9223372036854775807 ∧ (len = 0 ∨ ∃ (b off : Nat) (f : Nat → Bool), a = some ⟨b, off, none⟩ ∧ b < w.heap.size ∧ ∀ j, j < len → w.cell? ⟨b, off + j, none⟩ = some (.bool (f j))) := by
  obtain ⟨a0, len, cap, rfl⟩ := okWide_slice Try.underlying35 hk
  obtain ⟨fuel, hf⟩ := h
  rcases open_slice1 Try.underlying35 Try.cells4 hf with ⟨hcs, hx⟩ | ⟨a, len', cap', m, n, V, D, Pl, hcs, hb, hl, hm, hmm, hx, hc⟩
  · simp [Value.cells] at hcs
    obtain ⟨rfl, rfl, rfl⟩ := hcs
    exact ⟨none, 0, 0, rfl, by omega, .inl rfl⟩
  · by_cases hz : len = 0
    · exact ⟨a0, len, cap, rfl, by omega, .inl hz⟩
    simp [Value.cells] at hcs
    obtain ⟨rfl, rfl, rfl⟩ := hcs
    have hm' : m = cap := by rw [hmm]; simp
    obtain ⟨b, off, spot⟩ := a
    have hc0 := (hc 0 (by omega)).1
    have hspot : spot = none := by simpa [Addr.add] using World.cell?_spot hc0
    subst hspot
    unfold maxLen at hm
    have hbools : ∀ i, i < len → ∃ t : Bool, V i = .bool t := fun i hi => by
      obtain ⟨t, ht, _⟩ := DataW.trod_bool Try.underlying4 (hc i (by omega)).2
      exact ⟨t, by simpa using ht⟩
    refine ⟨_, len, cap, rfl, by omega, .inr ⟨b, off, fun i => match V i with | .bool t => t | _ => false, rfl, ?_, fun j hj => ?_⟩⟩
    · rw [add_plain] at hc0
      exact block_lt_of_cell hc0
    · obtain ⟨t, ht⟩ := hbools j hj
      have := (hc j (by omega)).1
      rw [add_plain, ht] at this
      rw [this]; simp only [ht]
theorem names_walk (op : Int) (s : ByteArray) (two : Bool) {H : Type} {enc : TypeId × Value → H} {w : World} {v : Value} {d : DataW H} {p : List MemPlace} {base : Nat} (h0 : 0 ≤ op) (h1 : op ≤ 255)
    (h : DataW.Trod enc Try.prog w 0 (fun _ => true) true 35 v d p) (hk : Value.okWide Try.prog w .any base 35 v) (hlt : ∀ x ∈ p, x.block < w.heap.size) :
    Calls Try.prog 17 #[.int .u8 op, .string s, .bool two, v] w fun e w' => e = .returned (.bool true) ∧ Below w.heap.size w w' := by
  obtain ⟨a, len, cap, rfl, hl, hc⟩ := bools_open h hk hlt
  refine names_gen op s two a len cap h0 h1 hl w ?_
  rcases hc with rfl | ⟨b, off, f, rfl, hb, hc⟩
  · exact .inl (by omega)
  · by_cases hb' : len < 1 ∨ 16 < len
    · exact .inl hb'
    · exact .inr ⟨by omega, by omega, b, off, f, rfl, hb, hc⟩
theorem below_trod {H : Type} {enc : TypeId × Value → H} {w w' : World} {v : Value} {d : DataW H} {p : List MemPlace} (h : DataW.Trod enc Try.prog w 0 (fun _ => true) true 35 v d p) (hb : Below w.heap.size w w') (hlt : ∀ x ∈ p, x.block < w.heap.size) :
    DataW.Trod enc Try.prog w' 0 (fun _ => true) true 35 v d p :=
  WideElems.Trod_stays (by kernel_rfl) (by kernel_rfl) (by decide +kernel) h (fun x hx => hb.same (hlt x hx)) (fun x hx => rfl)
theorem law_names (op : Int) (s : ByteArray) (two : Bool) {H : Type} {enc : TypeId × Value → H} {w : World} {v : Value} {d : DataW H} {p : List MemPlace} {base : Nat} (h0 : 0 ≤ op) (h1 : op ≤ 255)
    (h : DataW.Trod enc Try.prog w 0 (fun _ => true) true 35 v d p) (hk : Value.okWide Try.prog w .any base 35 v) (hlt : ∀ x ∈ p, x.block < w.heap.size) :
    Calls Try.prog 5 #[.int .u8 op, .string s, .bool two, v] w fun e w' => e = .returned (.bool true) ∧ Below w.heap.size w w' := by
  have HW := Lib.hid (names_walk op s two h0 h1 h hk hlt)
  obtain ⟨a, len, cap, rfl⟩ := okWide_slice Try.underlying35 hk
  clear h hk hlt
  go_enter Try.func5, Try.ntmps5
  go_wp2_with (first | (go_at_call 17; refine HW.out.mono ?_; rintro e w1 ⟨rfl, hB⟩) | (go_at_call 11; refine (awake_ok _).mono ?_; rintro e w2 ⟨rfl, hB2⟩))
  go_ret
  exact ⟨rfl, hB.trans (hB2.mono hB.size)⟩
end Go.Proofs.Ytfgmcinegogdkaa
