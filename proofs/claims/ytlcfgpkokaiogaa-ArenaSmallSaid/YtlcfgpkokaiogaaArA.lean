/- Arenas: what lies in memory; what only asks. -/
import Derived.Test.YtlcfgpkokaiogaaProg
import Derived.Test.YtlcfgpkokaiogaaRange
import Derived.Test.YtlcfgpkokaiogaaBPl
import Derived.BigQuiet
import Derived.Deep.RegionHeld3
import Derived.Deep.DeepCutAuto
import Derived.Lib.OwnKind
import Derived.WalkMore
import Derived.IntWalk
namespace Go.Proofs.Ytlcfgpkokaiogaa
open Go Go.RowKit
set_option linter.unusedVariables false
set_option linter.unusedSimpArgs false
set_option maxHeartbeats 4000000
/-- An arena in memory. -/
structure Arm (W : World) (base d : Nat) (vs va : Value) (es : List En) (last : Nat) : Prop where
  hd : Blk W d 39 #[vs, va, .int .i64 (usedL (als es) : Int), .int .i64 ((als es).length : Int), .int .i64 (last : Int), .bool true]
  hs : W.ownsRow base 30 1 vs (flat es).length (lits (flat es))
  ha : W.ownsRow base 76 4 va es.length (encN 0 es)
  bd : base ≤ d
  ok : Ok es last
def fpOf (d : Nat) (vs va : Value) : List Nat := d :: (vs.ownBlock.toList ++ va.ownBlock.toList)
theorem mem_fp {k d : Nat} {vs va : Value} : k ∈ fpOf d vs va ↔ k = d ∨ vs.ownBlock = some k ∨ va.ownBlock = some k := by simp [fpOf]
section
variable {W W' : World} {base d : Nat} {vs va : Value} {es : List En} {last : Nat} {fp fq : List Nat}
theorem Arm.keep (h : Arm W base d vs va es last) (ho : Only fq W W') (hn : ∀ k, k ∈ fpOf d vs va → k ∉ fq) : Arm W' base d vs va es last :=
  ⟨h.hd.only ho (hn d (mem_fp.2 (.inl rfl))), own_only h.hs ho (fun k hk => hn k (mem_fp.2 (.inr (.inl hk)))), own_only h.ha ho (fun k hk => hn k (mem_fp.2 (.inr (.inr hk)))), h.bd, h.ok⟩
theorem Arm.new (h : Arm W base d vs va es last) (hb : Below W.heap.size W W') : Arm W' base d vs va es last := h.keep (only_of_below [] hb) (by simp)
theorem Arm.ck {B : Nat} (h : Arm W base d vs va es last) (k : CellsKept B W W') : Arm W' base d vs va es last := ⟨h.hd.ck k, own_ck h.hs k, own_ck h.ha k, h.bd, h.ok⟩
theorem Arm.ge (h : Arm W base d vs va es last) : ∀ k, k ∈ fpOf d vs va → base ≤ k ∧ k < W.heap.size := by
  intro k hk
  rcases mem_fp.1 hk with rfl | hk | hk
  · exact ⟨h.bd, h.hd.lt⟩
  · exact h.hs.lt k hk
  · exact h.ha.lt k hk
theorem Arm.cells (h : Arm W base d vs va es last) : ∀ k o, k ∈ fpOf d vs va → W.heap[k]? = some o → o.isCells = true := by
  intro k o hk ho
  rcases mem_fp.1 hk with rfl | hk | hk
  · exact blk_cells h.hd ho
  · exact own_cells h.hs hk ho
  · exact own_cells h.ha hk ho
theorem Arm.base_le (h : Arm W base d vs va es last) {base' : Nat} (hb : base' ≤ base) : Arm W base' d vs va es last := ⟨h.hd, own_base h.hs hb, own_base h.ha hb, by have := h.bd; omega, h.ok⟩
theorem Arm.drew (h : Arm W base d vs va es last) : Arm W.drew base d vs va es last := ⟨h.hd.drew, h.hs, h.ha, h.bd, h.ok⟩
theorem Arm.c0 (h : Arm W base d vs va es last) : W.cell? ⟨d, 0, none⟩ = some vs := by simpa using h.hd.cell 0
theorem Arm.c1 (h : Arm W base d vs va es last) : W.cell? ⟨d, 1, none⟩ = some va := by simpa using h.hd.cell 1
theorem Arm.c2 (h : Arm W base d vs va es last) : W.cell? ⟨d, 2, none⟩ = some (.int .i64 (usedL (als es) : Int)) := by simpa using h.hd.cell 2
theorem Arm.c3 (h : Arm W base d vs va es last) : W.cell? ⟨d, 3, none⟩ = some (.int .i64 ((als es).length : Int)) := by simpa using h.hd.cell 3
theorem Arm.c4 (h : Arm W base d vs va es last) : W.cell? ⟨d, 4, none⟩ = some (.int .i64 (last : Int)) := by simpa using h.hd.cell 4
theorem Arm.c5 (h : Arm W base d vs va es last) : W.cell? ⟨d, 5, none⟩ = some (.bool true) := by simpa using h.hd.cell 5
theorem Arm.few (h : Arm W base d vs va es last) : es.length ≤ 1073741824 := by
  have := sorted_few h.ok.so (m := last) h.ok.id1
  have := h.ok.la
  omega
end
theorem info76 : (Try.prog.info? 76).map (fun i => (i.zero, i.size, i.bytes)) = some (some (.agg #[.int .i64 0, .int .i64 0, .int .i64 0, .bool false]), 4, 32) := by kernel_rfl
theorem info30 : (Try.prog.info? 30).map (fun i => (i.zero, i.size, i.bytes)) = some (some (.int .i64 0), 1, 8) := by kernel_rfl
theorem info3 : (Try.prog.info? 3).map (fun i => (i.zero, i.size, i.bytes)) = some (some (.int .i64 0), 1, 8) := by kernel_rfl
theorem ret_int {k : IntKind} {a b : Int} (h : a = b) : Ending.returned (.int k a) = .returned (.int k b) := by rw [h]
theorem own_cast {w : World} {base n n' : Nat} {e : TypeId} {size : Nat} {v : Value} {xs xs' : List Value} (h : w.ownsRow base e size v n xs) (hn : n = n') (hx : xs = xs') : w.ownsRow base e size v n' xs' := by
  subst hn; subst hx; exact h
theorem own_cap {w : World} {base n m c : Nat} {e : TypeId} {size : Nat} {A : Option Addr} {xs : List Value} (h : w.ownsRow base e size (.slice A n c) m xs) : n ≤ c ∧ c ≤ 9223372036854775807 := by
  have hml : maxLen ≤ 9223372036854775807 := by decide
  rcases h.2 with ⟨hv, _⟩ | ⟨g, cap, cur, hv, _, _, h1, h2, _⟩
  · injection hv with _ a b
    omega
  · injection hv with _ a b
    omega
section
variable {w : World} {base d : Nat} {vs va : Value} {es : List En} {last : Nat}
theorem is_ok (h : Arm w base d vs va es last) : Calls Try.prog 35 #[.pointer (some ⟨d, 0, none⟩)] w fun e w' => e = .returned (.bool true) ∧ w = w' := by
  have h3 := h.c5
  clear h
  go_enter Try.func35, Try.ntmps35
  go_wp2
  go_ret
  exact ⟨rfl, rfl⟩
theorem used_ok (h : Arm w base d vs va es last) : Calls Try.prog 16 #[.pointer (some ⟨d, 0, none⟩)] w fun e w' => e = .returned (.int .i64 (usedL (als es) : Int)) ∧ w = w' := by
  have c2 := h.c2
  replace h := Lib.hid h
  go_enter Try.func16, Try.ntmps16
  go_wp2_with (go_at_call 35; refine (is_ok h.out).mono ?_; rintro e w' ⟨rfl, rfl⟩)
  go_ret
  exact ⟨rfl, rfl⟩
theorem count_ok (h : Arm w base d vs va es last) : Calls Try.prog 22 #[.pointer (some ⟨d, 0, none⟩)] w fun e w' => e = .returned (.int .i64 ((als es).length : Int)) ∧ w = w' := by
  have c3 := h.c3
  replace h := Lib.hid h
  go_enter Try.func22, Try.ntmps22
  go_wp2_with (go_at_call 35; refine (is_ok h.out).mono ?_; rintro e w' ⟨rfl, rfl⟩)
  go_ret
  exact ⟨rfl, rfl⟩
theorem held_ok (h : Arm w base d vs va es last) : Calls Try.prog 23 #[.pointer (some ⟨d, 0, none⟩)] w fun e w' => e = .returned (.int .i64 ((flat es).length : Int)) ∧ w = w' := by
  have c0 := h.c0
  obtain ⟨A, c, rfl⟩ := own_form h.hs
  replace h := Lib.hid h
  go_enter Try.func23, Try.ntmps23
  go_wp2_with (go_at_call 35; refine (is_ok h.out).mono ?_; rintro e w' ⟨rfl, rfl⟩)
  go_ret
  exact ⟨rfl, rfl⟩
theorem last_ok (h : Arm w base d vs va es last) : Calls Try.prog 24 #[.pointer (some ⟨d, 0, none⟩)] w fun e w' => e = .returned (.int .i64 (last : Int)) ∧ w = w' := by
  have c4 := h.c4
  replace h := Lib.hid h
  go_enter Try.func24, Try.ntmps24
  go_wp2_with (go_at_call 35; refine (is_ok h.out).mono ?_; rintro e w' ⟨rfl, rfl⟩)
  go_ret
  exact ⟨rfl, rfl⟩
theorem cmp_any (a b i : Int) (g : Bool) (id : Int) (h1 : -9223372036854775808 ≤ i - id) (h2 : i - id ≤ 9223372036854775807) (w : World) :
    Calls Try.prog 51 #[.agg #[.int .i64 a, .int .i64 b, .int .i64 i, .bool g], .int .i64 id] w fun e w' => e = .returned (.int .i64 (i - id)) ∧ Below w.heap.size w w' := by
  go_enter Try.func51, Try.ntmps51
  go_wp2
  go_ret
  exact ⟨rfl, by simpa using (Below.refl _ w).alloc (Nat.le_refl _) _⟩
theorem spanlen_any (a b : Int) (h1 : -9223372036854775808 ≤ b - a) (h2 : b - a ≤ 9223372036854775807) (w : World) :
    Calls Try.prog 38 #[.agg #[.int .i64 a, .int .i64 b]] w fun e w' => e = .returned (.int .i64 (b - a)) ∧ Below w.heap.size w w' := by
  go_enter Try.func38, Try.ntmps38
  go_wp2
  go_ret
  exact ⟨rfl, by simpa using (Below.refl _ w).alloc (Nat.le_refl _) _⟩
end
end Go.Proofs.Ytlcfgpkokaiogaa
