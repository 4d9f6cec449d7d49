/- Disks: the reference: what was done, read. -/
import Derived.Test.YthhchccjpgpibaaDiskW
import Derived.Test.YthhchccjpgpibaaDiskK
import Derived.Test.YthhchccjpgpibaaGrown
namespace Go.Proofs.Ythhchccjpgpibaa
open Go Go.RowKit Go.Shelf
set_option linter.unusedVariables false
set_option linter.unusedSimpArgs false
set_option maxHeartbeats 4000000
/-- A disk of the reference. -/
def Rf (W : World) (v : Value) (D0 : Dst) (l : List RAct) : Prop := ∃ Af cf Ad cd, v = .agg #[.slice Af D0.ws.length cf, .int .i64 D0.wd, .slice Ad l.length cd] ∧ Reads W W.heap.size 1 Af D0.ws.length (D0.ws.map (Value.int .i64)) ∧ Reads W W.heap.size 3 Ad l.length (encRs l) ∧
  D0.ws.length ≤ cf ∧ cf ≤ 9223372036854775807 ∧ l.length ≤ cd ∧ cd ≤ 9223372036854775807
theorem Rf.new {W W' : World} {v : Value} {D0 : Dst} {l : List RAct} (h : Rf W v D0 l) (hb : Below W.heap.size W W') : Rf W' v D0 l := by
  obtain ⟨Af, cf, Ad, cd, e, h1, h2, h3⟩ := h
  exact ⟨Af, cf, Ad, cd, e, (h1.below hb).more hb.size, (h2.below hb).more hb.size, h3⟩
/-- The first words, and what was done, are right. -/
structure RI (D0 : Dst) (l : List RAct) : Prop where
  es : D0.es = []
  ep : D0.ep = 0
  n1 : 1 ≤ D0.ws.length
  n2 : D0.ws.length ≤ 16
  w1 : 1 ≤ D0.wd
  w2 : D0.wd ≤ 16
  wb : ∀ x ∈ D0.ws, 0 ≤ x ∧ x ≤ 65535
  ok : ROk D0.ws.length l
  few : l.length ≤ 1000
theorem reads_done {W : World} {B k : Nat} {l : List RAct} {Ad : Option Addr} {x : RAct} (h : Reads W B 3 Ad l.length (encRs l)) (hx : l[k]? = some x) : ∃ ad, Ad = some ad ∧ ad.block < B ∧
    W.cell? (ad.add (k * 3)) = some (.int .i64 x.1) ∧ W.cell? ⟨(ad.add (k * 3)).block, (ad.add (k * 3)).off + 1, none⟩ = some (.int .i64 x.2.1) ∧ W.cell? ⟨(ad.add (k * 3)).block, (ad.add (k * 3)).off + 2, none⟩ = some (.int .i64 x.2.2) := by
  have hk := (List.getElem?_eq_some_iff.1 hx).1
  obtain ⟨ad, e, hb, hc⟩ := h.2 (by omega)
  have h3 : ∀ j, j ≠ 0 → (⟨(ad.add (k * 3)).block, (ad.add (k * 3)).off + j, none⟩ : Addr) = ad.add (k * 3 + j) := by
    intro j hj
    rw [← add_of_add]
    unfold Addr.add
    rw [if_neg hj]
  exact ⟨ad, e, hb, hc _ _ (by have := encRs_at l k 0 x hx (by omega); simpa [encR] using this), by rw [h3 1 (by decide)]; exact hc _ _ (by have := encRs_at l k 1 x hx (by omega); simpa [encR] using this), by rw [h3 2 (by decide)]; exact hc _ _ (by have := encRs_at l k 2 x hx (by omega); simpa [encR] using this)⟩
theorem reads_first {W : World} {B k n : Nat} {ws : List Int} {Af : Option Addr} {kd : IntKind} (h : Reads W B 1 Af n (ws.map (Value.int kd))) (hk : k < n) : ∃ ad x, Af = some ad ∧ ad.block < B ∧ ws[k]? = some x ∧ W.cell? (ad.add k) = some (.int kd x) := by
  obtain ⟨ad, u, e, hb, hx, hc⟩ := h.at_ hk
  rw [List.getElem?_map] at hx
  cases hl : ws[k]? with
  | none => rw [hl] at hx; cases hx
  | some x =>
    rw [hl] at hx
    injection hx with hx
    subst hx
    exact ⟨ad, x, e, hb, rfl, hc⟩
set_option maxRecDepth 100000 in
theorem rflushed {w : World} {v : Value} {D0 : Dst} {l : List RAct} (h : Rf w v D0 l) (hl : RI D0 l) : Calls Try.prog 57 #[v] w fun e w' => ∃ k : Nat, e = .returned (.int .i64 k) ∧ IsFl l k ∧ Below w.heap.size w w' := by
  obtain ⟨Af, cf, Ad, cd, rfl, hF, hA, k1, k2, k3, k4⟩ := h
  have hB : Below w.heap.size w (w.alloc (.cells #[.slice Af D0.ws.length cf, .int .i64 D0.wd, .slice Ad l.length cd] 74)) := (Below.refl _ _).alloc (Nat.le_refl _) _
  have hb := Blk.new w 74 #[.slice Af D0.ws.length cf, .int .i64 D0.wd, .slice Ad l.length cd]
  replace hA := hA.below hB
  have hfew := hl.few
  have hfi : (l.length : Int) ≤ 1000 := by omega
  replace hl := Lib.hid hl
  clear hF k1 k2 k3 k4
  go_enter Try.func57, Try.ntmps57
  go_wp2_with fail
  have b2 := hb.cell 2
  generalize w.alloc (.cells #[.slice Af D0.ws.length cf, .int .i64 D0.wd, .slice Ad l.length cd] 74) = W1 at *
  simp only [List.getElem?_toArray, List.getElem?_cons_succ, List.getElem?_cons_zero] at b2
  go_loopw [3] (fun i wr => ∃ k : Nat, k ≤ l.length ∧ i = .int .i64 k ∧ wr = W1 ∧ ∀ (j : Nat) (a : RAct), k ≤ j → l[j]? = some a → a.1 ≠ 3) (fun i _ => (intOf i).toNat)
  case atStart => exact ⟨l.length, Nat.le_refl _, rfl, rfl, fun j a hj hx => by have := (List.getElem?_eq_some_iff.1 hx).1; omega⟩
  case round =>
    obtain ⟨k, hk, rfl, rfl, hno⟩ := hrel
    by_cases h0 : k = 0
    · subst h0
      have hfin : IsFl l 0 := ⟨Nat.zero_le _, fun j a hj => hno j a hj, .inl rfl⟩
      replace hfin := Lib.hid hfin
      clear hno
      go_wp2
      go_ret
      exact ⟨0, rfl, hfin.out, hB⟩
    · obtain ⟨q, rfl⟩ : ∃ q, k = q + 1 := ⟨k - 1, by omega⟩
      obtain ⟨x, hx⟩ : ∃ x, l[q]? = some x := ⟨_, List.getElem?_eq_getElem (by omega)⟩
      obtain ⟨ad, hAd, hadb, q0, _, _⟩ := reads_done hA hx
      subst hAd
      have t1 : ((q + 1 : Nat) : Int) = (q : Int) + 1 := by omega
      have t2 : (q : Int) < (l.length : Int) := by omega
      have t3 : 0 ≤ (q : Int) := by omega
      have t4 : (q : Int) ≤ 1000 := by omega
      rw [t1]
      by_cases h3 : x.1 = 3
      · have hfin : IsFl l (q + 1) := ⟨hk, hno, .inr ⟨x, by simpa using hx, h3⟩⟩
        replace hfin := Lib.hid hfin
        rw [h3] at q0
        clear hno hx h3
        go_wp2
        go_ret
        exact ⟨q + 1, by show Ending.returned (.int .i64 ((q : Int) + 1)) = _; rw [t1], hfin.out, hB⟩
      · have hb1 : (x.1 == 3) = false := by simpa using h3
        have hnext : ∀ (j : Nat) (a : RAct), q ≤ j → l[j]? = some a → a.1 ≠ 3 := by
          intro j a hj hxa
          by_cases he : j = q
          · subst he
            rw [hx] at hxa
            injection hxa with hxa
            rw [← hxa]; exact h3
          · exact hno j a (by omega) hxa
        replace hnext := Lib.hid hnext
        clear hno hx h3
        generalize x.1 = xk at *
        go_wp2_with fail
        go_roundw
        case rel => exact ⟨q, by omega, by go_num, trivial, hnext.out⟩
        case measure => simp [intOf]
set_option maxRecDepth 100000 in
theorem rwritten {w : World} {v : Value} {D0 : Dst} {l : List RAct} (h : Rf w v D0 l) (hl : RI D0 l) (b m : Nat) (hb0 : b < D0.ws.length) (hm : m ≤ l.length) {y : Int} (hy : (seenF D0.ws (l.take m))[b]? = some y) : Calls Try.prog 53 #[v, .int .i64 b, .int .i64 m] w fun e w' => e = .returned (.int .i64 y) ∧ Below w.heap.size w w' := by
  obtain ⟨Af, cf, Ad, cd, rfl, hF, hA, k1, k2, k3, k4⟩ := h
  have hB : Below w.heap.size w (w.alloc (.cells #[.slice Af D0.ws.length cf, .int .i64 D0.wd, .slice Ad l.length cd] 74)) := (Below.refl _ _).alloc (Nat.le_refl _) _
  have hb := Blk.new w 74 #[.slice Af D0.ws.length cf, .int .i64 D0.wd, .slice Ad l.length cd]
  replace hA := hA.below hB
  replace hF := hF.below hB
  have hfew := hl.few
  have hfi : (l.length : Int) ≤ 1000 := by omega
  have hmi : (m : Int) ≤ 1000 := by omega
  have hok := hl.ok
  have hn2 := hl.n2
  replace hl := Lib.hid hl
  clear k1 k2 k3 k4
  go_enter Try.func53, Try.ntmps53
  go_wp2_with fail
  have b2 := hb.cell 2
  have b0 := hb.cell 0
  generalize w.alloc (.cells #[.slice Af D0.ws.length cf, .int .i64 D0.wd, .slice Ad l.length cd] 74) = W1 at *
  simp only [List.getElem?_toArray, List.getElem?_cons_succ, List.getElem?_cons_zero] at b2 b0
  go_loopw [7] (fun i wr => ∃ k : Nat, k ≤ m ∧ i = .int .i64 ((k : Int) - 1) ∧ wr = W1 ∧ ∀ (j : Nat) (a : RAct), k ≤ j → j < m → l[j]? = some a → ¬ a.hits b) (fun i _ => (intOf i + 1).toNat)
  case atStart => exact ⟨m, Nat.le_refl _, rfl, rfl, fun j a hj hx => by omega⟩
  case round =>
    obtain ⟨k, hk, rfl, rfl, hno⟩ := hrel
    by_cases h0 : k = 0
    · subst h0
      have hz : ((0 : Nat) : Int) - 1 = -1 := rfl
      rw [hz]
      obtain ⟨ad, x, hAf, _, hx, q0⟩ := reads_first hF hb0
      subst hAf
      have hyx : y = x := by
        have h1 := seenF_miss D0.ws l b 0 m (Nat.zero_le _) (fun a ha h1 => (hok a ha).2.1) (fun j a h1 h2 h3 => hno j a h1 h2 h3)
        rw [h1] at hy
        have : (seenF D0.ws (l.take 0))[b]? = D0.ws[b]? := rfl
        rw [this, hx] at hy
        injection hy with hy
        exact hy.symm
      subst hyx
      have u1 : (b : Int) < (D0.ws.length : Int) := by omega
      have u2 : 0 ≤ (b : Int) := by omega
      clear hno hy hx
      go_wp2
      go_ret
      exact ⟨rfl, hB⟩
    · obtain ⟨q, rfl⟩ : ∃ q, k = q + 1 := ⟨k - 1, by omega⟩
      obtain ⟨x, hx⟩ : ∃ x, l[q]? = some x := ⟨_, List.getElem?_eq_getElem (by omega)⟩
      obtain ⟨ad, hAd, hadb, q0, q1, q2⟩ := reads_done hA hx
      subst hAd
      have t1 : ((q + 1 : Nat) : Int) - 1 = (q : Int) := by omega
      have t2 : (q : Int) < (l.length : Int) := by omega
      have t3 : 0 ≤ (q : Int) := by omega
      have t4 : (q : Int) ≤ 1000 := by omega
      rw [t1]
      by_cases h3 : x.1 = 1
      · rw [h3] at q0
        by_cases h4 : x.2.1 = (b : Int)
        · have hyx : y = x.2.2 := by
            have h1 := seenF_hit D0.ws l b q m x (by omega) (fun a ha h1 => (hok a ha).2.1) hx ⟨h3, h4⟩ hb0 (fun j a h1 h2 h3 => hno j a (by omega) h2 h3)
            rw [h1] at hy
            injection hy with hy
            exact hy.symm
          subst hyx
          rw [h4] at q1
          clear hno hx h3 h4 hy
          go_wp2
          go_ret
          exact ⟨rfl, hB⟩
        · have hb1 : (x.2.1 == (b : Int)) = false := by simpa using h4
          have hnext : ∀ (j : Nat) (a : RAct), q ≤ j → j < m → l[j]? = some a → ¬ a.hits b := by
            intro j a hj hjm hxa
            by_cases he : j = q
            · subst he
              rw [hx] at hxa
              injection hxa with hxa
              rw [← hxa]; exact fun hc => h4 hc.2
            · exact hno j a (by omega) hjm hxa
          replace hnext := Lib.hid hnext
          clear hno hx h3 h4 hy
          generalize x.2.1 = xb at *
          go_wp2_with fail
          go_roundw
          case rel => exact ⟨q, by omega, by go_num, trivial, hnext.out⟩
          case measure => simp [intOf]
      · have hb1 : (x.1 == 1) = false := by simpa using h3
        have hnext : ∀ (j : Nat) (a : RAct), q ≤ j → j < m → l[j]? = some a → ¬ a.hits b := by
          intro j a hj hjm hxa
          by_cases he : j = q
          · subst he
            rw [hx] at hxa
            injection hxa with hxa
            rw [← hxa]; exact fun hc => h3 hc.1
          · exact hno j a (by omega) hjm hxa
        replace hnext := Lib.hid hnext
        clear hno hx h3 hy
        generalize x.1 = xk at *
        go_wp2_with fail
        go_roundw
        case rel => exact ⟨q, by omega, by go_num, trivial, hnext.out⟩
        case measure => simp [intOf]
end Go.Proofs.Ythhchccjpgpibaa
