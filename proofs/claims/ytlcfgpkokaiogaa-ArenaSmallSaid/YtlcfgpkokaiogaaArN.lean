/- Arenas: put. -/
import Derived.Test.YtlcfgpkokaiogaaArM
namespace Go.Proofs.Ytlcfgpkokaiogaa
open Go Go.RowKit Go.Shelf
set_option linter.unusedVariables false
set_option linter.unusedSimpArgs false
set_option maxHeartbeats 4000000
/-- A slice of slices of numbers. -/
structure Nest (w : World) (B : Nat) (vs : List Value) (ll : List (List Int)) : Prop where
  len : vs.length = ll.length
  at_ : ∀ (k : Nat) (l : List Int), ll[k]? = some l → ∃ A n c, vs[k]? = some (.slice A n c) ∧ Reads w B 1 A n (l.map (Value.int .u8)) ∧ n ≤ c ∧ n ≤ 9223372036854775807 ∧ ∀ x ∈ l, 0 ≤ x ∧ x ≤ 255
theorem Nest.below {w w' : World} {B : Nat} {vs : List Value} {ll : List (List Int)} (h : Nest w B vs ll) (hb : Below B w w') : Nest w' B vs ll :=
  ⟨h.len, fun k l hk => by obtain ⟨A, n, c, h1, h2, h3⟩ := h.at_ k l hk; exact ⟨A, n, c, h1, h2.below hb, h3⟩⟩
/-- The clauses that put adds. -/
def putF (i : Nat) (l : List Int) : Nat × List Int := (2 * i + 1, mkC l)
def putA (ll : List (List Int)) : List (Nat × List Int) := ll.mapIdx putF
def putL (n : Nat) : Nat := 2 * n - 1
theorem putA_snoc {ll : List (List Int)} {k : Nat} {l : List Int} (h : ll[k]? = some l) : putA (ll.take (k + 1)) = putA (ll.take k) ++ [(2 * k + 1, mkC l)] := by
  rw [take_snoc h, putA, List.mapIdx_append]
  have := (List.getElem?_eq_some_iff.1 h).1
  simp [putA, putF]
  omega
theorem putA_len (ll : List (List Int)) : (putA ll).length = ll.length := by simp [putA]
theorem putA_at (ll : List (List Int)) (k : Nat) : (putA ll)[k]? = (ll[k]?).map (putF k) := by simp [putA]
theorem putA_used (ll : List (List Int)) : usedL (putA ll) ≤ 20 * ll.length := by
  suffices h : ∀ k, k ≤ ll.length → usedL (putA (ll.take k)) ≤ 20 * k by
    have := h ll.length (Nat.le_refl _)
    rwa [List.take_length] at this
  intro k
  induction k with
  | zero => intro _; simp [putA, usedL]
  | succ k ih =>
    intro hk
    have h1 := ih (by omega)
    rw [putA_snoc (List.getElem?_eq_getElem (show k < ll.length by omega)), usedL_append]
    have := mkC_len (ll[k]'(by omega))
    simp [usedL] at h1 ⊢
    omega
theorem put_add {al : List (Nat × List Int)} {last : Nat} {l : List Int} {k : Nat} (hl : last = putL k) (hu : usedL al ≤ 20 * k) (hk : k < 60) : addErr al last ((2 * k + 1 : Nat) : Int) (mkC l) = 0 ∧ addAl al last ((2 * k + 1 : Nat) : Int) (mkC l) = al ++ [(2 * k + 1, mkC l)] ∧ addLast al last ((2 * k + 1 : Nat) : Int) (mkC l) = 2 * k + 1 := by
  have h1 := mkC_ok l
  have h2 := mkC_len l
  have he : addErr al last ((2 * k + 1 : Nat) : Int) (mkC l) = 0 := by
    unfold addErr
    rw [if_neg (by simpa using h1), if_neg (by unfold putL at hl; omega), if_neg (by omega)]
  refine ⟨he, ?_, ?_⟩
  · unfold addAl
    rw [if_pos he, Int.toNat_natCast]
  · unfold addLast
    rw [if_pos he, Int.toNat_natCast]
/-- What put answers. -/
def PutP (w : World) (ll : List (List Int)) (e : Ending) (w' : World) : Prop := ∃ d, e = .returned (.tuple #[.pointer (some ⟨d, 0, none⟩), .bool true]) ∧ Run w [] [] d (putA ll) (putL ll.length) w'
section
variable {w : World} {A : Option Addr} {n c B : Nat} {ll : List (List Int)} {vs : List Value}
set_option maxRecDepth 100000 in
theorem put_few (hrd : Reads w B 1 A n vs) (hN : Nest w B vs ll) (hB : B ≤ w.heap.size) (hn : n ≤ 60) (hc : n ≤ c) : Calls Try.prog 25 #[.slice A n c] w (PutP w ll) := by
  have hll : ll.length = n := by have := hrd.1; have := hN.len; omega
  have i1 : (n : Int) ≤ 60 := by omega
  have i2 : ¬ 60 < (n : Int) := by omega
  replace hN := Lib.hid hN
  have hll' := Lib.hid hll
  clear hll
  go_enter Try.func25, Try.ntmps25
  go_wp2_with (go_at_call 13; refine (run_new (w := w) (Below.refl _ _)).mono ?_; rintro e W1 ⟨d, rfl, hR⟩)
  go_loopw [16] (fun i wr => ∃ k : Nat, k ≤ n ∧ i = .int .i64 k ∧ Run w [] [] d (putA (ll.take k)) (putL k) wr) (fun i _ => n - (intOf i).toNat)
  case atStart => exact ⟨0, by omega, rfl, hR⟩
  case round =>
    clear hR
    obtain ⟨k, hk, rfl, hR⟩ := hrel
    by_cases hlt : k < n
    · obtain ⟨l, hl⟩ : ∃ l, ll[k]? = some l := ⟨_, List.getElem?_eq_getElem (by rw [hll'.out]; exact hlt)⟩
      obtain ⟨A2, n2, c2, hv, hrd2, hn2, hm2, hx2⟩ := (hN.out.below (hR.below.mono hB)).at_ k l hl
      obtain ⟨ad, u, rfl, hab, hu, q0⟩ := (hrd.below (hR.below.mono hB)).at_ hlt
      have := hu.symm.trans hv
      cases this
      have hsn := putA_snoc hl
      have hadd := put_add (l := l) (al := putA (ll.take k)) (last := putL k) rfl (by have := putA_used (ll.take k); rw [List.length_take] at this; omega) (by omega)
      rw [← hsn] at hadd
      have t1 : (k : Int) < (n : Int) := by omega
      have t3 : 0 ≤ (k : Int) := by omega
      have hmd := made_ok A2 n2 c2 B l wr hrd2 (Nat.le_trans hB hR.below.size) hm2 hn2 hx2
      have hcl := mkC_len l
      replace hadd := Lib.hid hadd
      replace hmd := Lib.hid hmd
      clear hl hu hv hsn hx2
      generalize mkC l = cl at *
      go_wp2_with (first
        | (go_at_call 27; refine hmd.out.mono ?_; rintro e W2 ⟨A3, c3, rfl, hown, hB2⟩; have hR2 := hR.new hB2; have hr3 := Reads.of_own hown)
        | (go_at_call 14; refine (run_add hR2 hr3 (Nat.le_refl _) (by omega) _ hadd.out.1 hadd.out.2.1 hadd.out.2.2).mono ?_; rintro e W3 ⟨rfl, hR3⟩))
      go_roundw
      case rel => exact ⟨k + 1, by omega, by go_num, hR3⟩
      case measure => simp [intOf]; omega
    · obtain rfl : k = n := by omega
      rw [List.take_of_length_le (by rw [hll'.out]; exact Nat.le_refl _)] at hR
      go_wp2
      go_ret2
      exact ⟨d, rfl, by rw [hll'.out]; exact hR⟩
set_option maxRecDepth 100000 in
theorem put_many (hrd : Reads w B 1 A n vs) (hN : Nest w B vs ll) (hB : B ≤ w.heap.size) (hn : 60 < n) (hm : n ≤ 9223372036854775807) (hc : n ≤ c) : Calls Try.prog 25 #[.slice A n c] w (PutP w (ll.take 60)) := by
  have hll : ll.length = n := by have := hrd.1; have := hN.len; omega
  have i1 : 60 < (n : Int) := by omega
  have i2 : ¬ (n : Int) < 60 := by omega
  have i3 : (60 : Int) ≤ (n : Int) := by omega
  have i4 : (60 : Int) ≤ (c : Int) := by omega
  replace hN := Lib.hid hN
  have hll' := Lib.hid hll
  clear hll
  go_enter Try.func25, Try.ntmps25
  go_wp2_with (go_at_call 13; refine (run_new (w := w) (Below.refl _ _)).mono ?_; rintro e W1 ⟨d, rfl, hR⟩)
  go_loopw [16] (fun i wr => ∃ k : Nat, k ≤ 60 ∧ i = .int .i64 k ∧ Run w [] [] d (putA (ll.take k)) (putL k) wr) (fun i _ => 60 - (intOf i).toNat)
  case atStart => exact ⟨0, by omega, rfl, hR⟩
  case round =>
    clear hR
    obtain ⟨k, hk, rfl, hR⟩ := hrel
    by_cases hlt : k < 60
    · obtain ⟨l, hl⟩ : ∃ l, ll[k]? = some l := ⟨_, List.getElem?_eq_getElem (by rw [hll'.out]; omega)⟩
      obtain ⟨A2, n2, c2, hv, hrd2, hn2, hm2, hx2⟩ := (hN.out.below (hR.below.mono hB)).at_ k l hl
      obtain ⟨ad, u, rfl, hab, hu, q0⟩ := (hrd.below (hR.below.mono hB)).at_ (show k < n by omega)
      have := hu.symm.trans hv
      cases this
      have hsn := putA_snoc hl
      have hadd := put_add (l := l) (al := putA (ll.take k)) (last := putL k) rfl (by have := putA_used (ll.take k); rw [List.length_take] at this; omega) (by omega)
      rw [← hsn] at hadd
      have t1 : (k : Int) < 60 := by omega
      have t3 : 0 ≤ (k : Int) := by omega
      have hmd := made_ok A2 n2 c2 B l wr hrd2 (Nat.le_trans hB hR.below.size) hm2 hn2 hx2
      have hcl := mkC_len l
      replace hadd := Lib.hid hadd
      replace hmd := Lib.hid hmd
      clear hl hu hv hsn hx2
      generalize mkC l = cl at *
      go_wp2_with (first
        | (go_at_call 27; refine hmd.out.mono ?_; rintro e W2 ⟨A3, c3, rfl, hown, hB2⟩; have hR2 := hR.new hB2; have hr3 := Reads.of_own hown)
        | (go_at_call 14; refine (run_add hR2 hr3 (Nat.le_refl _) (by omega) _ hadd.out.1 hadd.out.2.1 hadd.out.2.2).mono ?_; rintro e W3 ⟨rfl, hR3⟩))
      go_roundw
      case rel => exact ⟨k + 1, by omega, by go_num, hR3⟩
      case measure => simp [intOf]; omega
    · obtain rfl : k = 60 := by omega
      go_wp2
      go_ret2
      exact ⟨d, rfl, by rw [List.length_take, hll'.out, Nat.min_eq_left (by omega)]; exact hR⟩
theorem put_ok (hrd : Reads w B 1 A n vs) (hN : Nest w B vs ll) (hB : B ≤ w.heap.size) (hm : n ≤ 9223372036854775807) (hc : n ≤ c) : Calls Try.prog 25 #[.slice A n c] w (PutP w (ll.take 60)) := by
  by_cases hn : n ≤ 60
  · rw [List.take_of_length_le (by have := hrd.1; have := hN.len; omega)]
    exact put_few hrd hN hB hn hc
  · exact put_many hrd hN hB (by omega) hm hc
end
end Go.Proofs.Ytlcfgpkokaiogaa
