/- Arenas: Add, all answers. -/
import Derived.Test.YtlcfgpkokaiogaaArD
namespace Go.Proofs.Ytlcfgpkokaiogaa
open Go Go.RowKit
set_option linter.unusedVariables false
set_option linter.unusedSimpArgs false
set_option maxHeartbeats 4000000
section
variable {w : World} {base d : Nat} {vs va : Value} {es : List En} {last : Nat}
theorem add_wrong (h : Arm w base d vs va es last) {A : Option Addr} {n c B : Nat} {l : List Int} (hrd : Reads w B 1 A n (lits l)) (hn : n ≤ 9223372036854775807) (hl : ¬ ClOk l) (id : Int) :
    Calls Try.prog 14 #[.pointer (some ⟨d, 0, none⟩), .int .i64 id, .slice A n c] w fun e w' => e = .returned (.int .i64 20) ∧ w = w' := by
  have hright := right_ok A n c B l hrd hn
  rw [show decide (ClOk l) = false from decide_eq_false hl] at hright
  have hisk := is_ok h
  replace hright := Lib.hid hright
  replace hisk := Lib.hid hisk
  clear h hrd hl
  go_enter Try.func14, Try.ntmps14
  go_wp2_with (first
    | (go_at_call 35; refine hisk.out.mono ?_; rintro e w' ⟨rfl, rfl⟩)
    | (go_at_call 36; refine hright.out.mono ?_; rintro e w' ⟨rfl, rfl⟩))
  go_ret
  exact ⟨rfl, rfl⟩
theorem add_id (h : Arm w base d vs va es last) {A : Option Addr} {n c B : Nat} {l : List Int} (hrd : Reads w B 1 A n (lits l)) (hl : ClOk l) (id : Int) (hid : id < 1 ∨ 1073741824 < id ∨ id ≤ last) :
    Calls Try.prog 14 #[.pointer (some ⟨d, 0, none⟩), .int .i64 id, .slice A n c] w fun e w' => e = .returned (.int .i64 30) ∧ w = w' := by
  have hll : l.length = n := by have := hrd.1; simpa [lits] using this
  have hright := right_ok A n c B l hrd (by have := hl.1; omega)
  rw [show decide (ClOk l) = true from decide_eq_true hl] at hright
  have hisk := is_ok h
  have q4 := h.c4
  replace hright := Lib.hid hright
  replace hisk := Lib.hid hisk
  clear h hrd hl hll
  by_cases i1 : id < 1
  · clear hid
    go_enter Try.func14, Try.ntmps14
    go_wp2_with (first
      | (go_at_call 35; refine hisk.out.mono ?_; rintro e w' ⟨rfl, rfl⟩)
      | (go_at_call 36; refine hright.out.mono ?_; rintro e w' ⟨rfl, rfl⟩))
    go_ret
    exact ⟨rfl, rfl⟩
  by_cases i2 : 1073741824 < id
  · clear hid
    go_enter Try.func14, Try.ntmps14
    go_wp2_with (first
      | (go_at_call 35; refine hisk.out.mono ?_; rintro e w' ⟨rfl, rfl⟩)
      | (go_at_call 36; refine hright.out.mono ?_; rintro e w' ⟨rfl, rfl⟩))
    go_ret
    exact ⟨rfl, rfl⟩
  have i3 : id ≤ last := by omega
  clear hid
  have i4 : decide (1073741824 < id) = false := by simp; omega
  have i5 : decide (id < 1) = false := by simp; omega
  go_enter Try.func14, Try.ntmps14
  go_wp2_with (first
    | (go_at_call 35; refine hisk.out.mono ?_; rintro e w' ⟨rfl, rfl⟩)
    | (go_at_call 36; refine hright.out.mono ?_; rintro e w' ⟨rfl, rfl⟩))
  go_ret
  exact ⟨rfl, rfl⟩
theorem add_full (h : Arm w base d vs va es last) {A : Option Addr} {n c B : Nat} {l : List Int} (hrd : Reads w B 1 A n (lits l)) (hl : ClOk l) (id : Nat) (h1 : last < id) (h2 : id ≤ 1073741824) (hu : 1048576 < usedL (als es) + l.length) :
    Calls Try.prog 14 #[.pointer (some ⟨d, 0, none⟩), .int .i64 (id : Int), .slice A n c] w fun e w' => e = .returned (.int .i64 4) ∧ w = w' := by
  have hll : l.length = n := by have := hrd.1; simpa [lits] using this
  have hn4 := hl.1
  have hus := h.ok.us
  have hright := right_ok A n c B l hrd (by omega)
  rw [show decide (ClOk l) = true from decide_eq_true hl] at hright
  have hisk := is_ok h
  have q4 := h.c4
  have q2 := h.c2
  obtain ⟨us, hus'⟩ : ∃ us, us = usedL (als es) := ⟨_, rfl⟩
  rw [← hus'] at q2 hu hus
  replace hright := Lib.hid hright
  replace hisk := Lib.hid hisk
  have t1 : ¬ (id : Int) < 1 := by omega
  have t2 : ¬ 1073741824 < (id : Int) := by omega
  have t3 : ¬ (id : Int) ≤ (last : Int) := by omega
  have t4 : 1048576 < (us : Int) + (n : Int) := by omega
  have t5 : decide (id ≤ last) = false := by simp; omega
  have t6 : decide (1073741824 < (id : Int)) = false := by simp; omega
  have t7 : decide ((id : Int) < 1) = false := by simp; omega
  clear h hrd hl
  go_enter Try.func14, Try.ntmps14
  go_wp2_with (first
    | (go_at_call 35; refine hisk.out.mono ?_; rintro e w' ⟨rfl, rfl⟩)
    | (go_at_call 36; refine hright.out.mono ?_; rintro e w' ⟨rfl, rfl⟩))
  go_ret
  exact ⟨rfl, rfl⟩
end
section
variable {w W W' : World} {base d : Nat} {fp fq : List Nat} {al : List (Nat × List Int)} {last : Nat}
theorem Arena.keep (h : Arena W base d fp al last) (ho : Only fq W W') (hn : ∀ k, k ∈ fp → k ∉ fq) : Arena W' base d fp al last := by
  obtain ⟨vs, va, es, h, e, rfl⟩ := h
  exact ⟨vs, va, es, h.keep ho hn, e, rfl⟩
theorem Arena.new (h : Arena W base d fp al last) (hb : Below W.heap.size W W') : Arena W' base d fp al last := h.keep (only_of_below [] hb) (by simp)
theorem Arena.ck {B : Nat} (h : Arena W base d fp al last) (k : CellsKept B W W') : Arena W' base d fp al last := by
  obtain ⟨vs, va, es, h, e, rfl⟩ := h
  exact ⟨vs, va, es, h.ck k, e, rfl⟩
theorem Arena.ge (h : Arena W base d fp al last) : ∀ k, k ∈ fp → base ≤ k ∧ k < W.heap.size := by
  obtain ⟨vs, va, es, h, e, rfl⟩ := h
  exact h.ge
theorem Arena.cells (h : Arena W base d fp al last) : ∀ k o, k ∈ fp → W.heap[k]? = some o → o.isCells = true := by
  obtain ⟨vs, va, es, h, e, rfl⟩ := h
  exact h.cells
theorem Arena.base_le (h : Arena W base d fp al last) {base' : Nat} (hb : base' ≤ base) : Arena W base' d fp al last := by
  obtain ⟨vs, va, es, h, e, rfl⟩ := h
  exact ⟨vs, va, es, h.base_le hb, e, rfl⟩
theorem Arena.drew (h : Arena W base d fp al last) : Arena W.drew base d fp al last := by
  obtain ⟨vs, va, es, h, e, rfl⟩ := h
  exact ⟨vs, va, es, h.drew, e, rfl⟩
/-- What is true of the clauses of an arena. -/
structure AOk (al : List (Nat × List Int)) (last : Nat) : Prop where
  so : al.Pairwise (fun a b => a.1 < b.1)
  id1 : ∀ c ∈ al, 1 ≤ c.1 ∧ c.1 ≤ last
  cl : ∀ c ∈ al, ClOk c.2
  la : last ≤ 1073741824
  us : usedL al ≤ 1048576
theorem Ok.aok {es : List En} (h : Ok es last) : AOk (als es) last :=
  ⟨als_sorted h.so, fun c hc => by obtain ⟨e, he, _, rfl⟩ := mem_als.1 hc; exact h.id1 e he, fun c hc => by obtain ⟨e, he, _, rfl⟩ := mem_als.1 hc; exact h.cl e he, h.la, h.us⟩
theorem Arena.ok (h : Arena W base d fp al last) : AOk al last := by
  obtain ⟨vs, va, es, h, rfl, rfl⟩ := h
  exact h.ok.aok
theorem wrote_same (h : Arena w base d fp al last) {r : Value} {e : Ending} {w' : World} (he : e = .returned r) (hb : Below w.heap.size w w') : Wrote w base d fp al last r e w' :=
  ⟨he, fp, h.new hb, fun k hk => .inl hk, only_of_below fp hb⟩
theorem add_arena (h : Arena w base d fp al last) {A : Option Addr} {n c B : Nat} {l : List Int} (hrd : Reads w B 1 A n (lits l)) (hB : B ≤ w.heap.size) (hn : n ≤ 9223372036854775807) (id : Int) :
    Calls Try.prog 14 #[.pointer (some ⟨d, 0, none⟩), .int .i64 id, .slice A n c] w (Wrote w base d fp (addAl al last id l) (addLast al last id l) (.int .i64 (addErr al last id l))) := by
  have h0 := h
  obtain ⟨vs, va, es, h, rfl, rfl⟩ := h
  by_cases hl : ClOk l
  · by_cases hi : id < 1 ∨ 1073741824 < id ∨ id ≤ last
    · have he : addErr (als es) last id l = 30 := by unfold addErr; rw [if_neg (by simpa using hl), if_pos hi]
      have hd : addAl (als es) last id l = als es := if_neg (by rw [he]; decide)
      have hla : addLast (als es) last id l = last := if_neg (by rw [he]; decide)
      rw [he, hd, hla]
      exact (add_id h hrd hl id hi).mono fun e w' h => wrote_same h0 h.1 (by rw [← h.2]; exact Below.refl _ _)
    · obtain ⟨k, rfl⟩ := Int.eq_ofNat_of_zero_le (show 0 ≤ id by omega)
      by_cases hu : 1048576 < usedL (als es) + l.length
      · have he : addErr (als es) last k l = 4 := by unfold addErr; rw [if_neg (by simpa using hl), if_neg hi, if_pos hu]
        have hd : addAl (als es) last k l = als es := if_neg (by rw [he]; decide)
        have hla : addLast (als es) last k l = last := if_neg (by rw [he]; decide)
        rw [he, hd, hla]
        exact (add_full h hrd hl k (by omega) (by omega) hu).mono fun e w' h => wrote_same h0 h.1 (by rw [← h.2]; exact Below.refl _ _)
      · have he : addErr (als es) last k l = 0 := by unfold addErr; rw [if_neg (by simpa using hl), if_neg hi, if_neg hu]
        have hd : addAl (als es) last k l = als es ++ [(k, l)] := by unfold addAl; rw [if_pos he]; rfl
        have hla : addLast (als es) last k l = k := by unfold addLast; rw [if_pos he]; rfl
        rw [he, hd, hla]
        exact add_yes h hrd hB hl k (by omega) (by omega) (by omega)
  · have he : addErr (als es) last id l = 20 := by unfold addErr; rw [if_pos hl]
    have hd : addAl (als es) last id l = als es := if_neg (by rw [he]; decide)
    have hla : addLast (als es) last id l = last := if_neg (by rw [he]; decide)
    rw [he, hd, hla]
    exact (add_wrong h hrd hn hl id).mono fun e w' h => wrote_same h0 h.1 (by rw [← h.2]; exact Below.refl _ _)
end
end Go.Proofs.Ytlcfgpkokaiogaa
