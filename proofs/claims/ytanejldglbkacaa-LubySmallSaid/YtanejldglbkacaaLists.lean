/- slices.Equal and slices.Contains at lists of numbers. -/
import Derived.Test.YtanejldglbkacaaMem
import Derived.Test.YtanejldglbkacaaDoubles
namespace Go.Proofs.Ytanejldglbkacaa
open Go Go.RowKit
set_option linter.unusedVariables false
set_option linter.unusedSimpArgs false
set_option maxHeartbeats 4000000
theorem reads_int {w : World} {B n : Nat} {A : Option Addr} {l : List Int} {kd : IntKind} (h : Reads w B 1 A n (l.map (Value.int kd))) {k : Nat} (hk : k < n) :
    ∃ ad, A = some ad ∧ w.cell? (ad.add k) = some (.int kd (l[k]?.getD 0)) := by
  obtain ⟨ad, u, e, hb, hx, hc⟩ := h.at_ hk
  rw [List.getElem?_map] at hx
  cases hl : l[k]? with
  | none => rw [hl] at hx; cases hx
  | some x => rw [hl] at hx; simp at hx; subst hx; exact ⟨ad, e, hc⟩
theorem equal_true (A A' : Option Addr) (n c c' : Nat) (l : List Int) (B B' : Nat) (w : World) (h : Reads w B 1 A n (l.map (Value.int .i64))) (h' : Reads w B' 1 A' n (l.map (Value.int .i64))) (hn : n ≤ 1099511627776) :
    Calls Try.prog 27 #[.slice A n c, .slice A' n c'] w fun e w' => e = .returned (.bool true) ∧ ∃ d, w' = w.drewN d := by
  go_enter Try.func27, Try.ntmps27
  go_wp2
  go_loopw [13] (fun i wr => ∃ k d : Nat, k ≤ n ∧ i = .int .i64 k ∧ wr = w.drewN d) (fun i _ => n - (intOf i).toNat)
  case atStart => exact ⟨0, 0, by omega, rfl, rfl⟩
  case round =>
    obtain ⟨k, d, hk, rfl, rfl⟩ := hrel
    by_cases hlt : k < n
    · obtain ⟨ad, rfl, q1⟩ := reads_int h hlt
      obtain ⟨ad', rfl, q2⟩ := reads_int h' hlt
      have hlt2 : (k : Int) < (n : Int) := by omega
      have hk0 : 0 ≤ (k : Int) := by omega
      generalize l[k]?.getD 0 = x at q1 q2
      go_wp2_with fail
      go_quiet (fail)
      go_wp2_with fail
      go_roundw
      case rel => exact ⟨k + 1, _, by omega, by go_num, rfl⟩
      case measure => simp [intOf]; omega
    · obtain rfl : k = n := by omega
      go_wp2_with fail
      go_ret
      exact ⟨rfl, d, rfl⟩
theorem index_no (A : Option Addr) (n c : Nat) (v : Int) (l : List Int) (B : Nat) (w : World) (h : Reads w B 1 A n (l.map (Value.int .i64))) (hn : n ≤ 1099511627776) (hv : ∀ k, k < n → l[k]?.getD 0 ≠ v) :
    Calls Try.prog 39 #[.slice A n c, .int .i64 v] w fun e w' => e = .returned (.int .i64 (-1)) ∧ w = w' := by
  have hv := Lib.hid hv
  go_enter Try.func39, Try.ntmps39
  go_wp2
  go_loop [8] (fun i => ∃ k : Nat, k ≤ n ∧ i = .int .i64 k) (fun i => n - (intOf i).toNat)
  case atStart => exact ⟨0, by omega, rfl⟩
  case round =>
    obtain ⟨k, hk, rfl⟩ := hrel
    by_cases hlt : k < n
    · obtain ⟨ad, rfl, q1⟩ := reads_int h hlt
      have hne := hv.out k hlt
      have hlt2 : (k : Int) < (n : Int) := by omega
      have hk0 : 0 ≤ (k : Int) := by omega
      generalize l[k]?.getD 0 = x at q1 hne
      have hne2 : (v == x) = false := by simpa using fun e => hne e.symm
      clear hne
      go_wp2_with fail
      go_round
      case rel => exact ⟨k + 1, by omega, by go_num⟩
      case measure => simp [intOf]; omega
    · obtain rfl : k = n := by omega
      go_wp2_with fail
      go_ret
      exact ⟨rfl, rfl⟩
theorem contains_no (A : Option Addr) (n c : Nat) (v : Int) (l : List Int) (B : Nat) (w : World) (h : Reads w B 1 A n (l.map (Value.int .i64))) (hn : n ≤ 1099511627776) (hv : ∀ k, k < n → l[k]?.getD 0 ≠ v) :
    Calls Try.prog 25 #[.slice A n c, .int .i64 v] w fun e w' => e = .returned (.bool false) ∧ w = w' := by
  have hv := Lib.hid hv
  go_enter Try.func25, Try.ntmps25
  go_wp2_with (go_at_call 39; refine (index_no A n c v l B _ h hn hv.out).mono ?_; rintro e w' ⟨rfl, rfl⟩)
  go_ret
  exact ⟨rfl, rfl⟩
end Go.Proofs.Ytanejldglbkacaa
