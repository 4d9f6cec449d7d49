/- Restarts that are none. -/
import Derived.Test.YtanejldglbkacaaTells
import Derived.Test.YtanejldglbkacaaConflicts
namespace Go.Proofs.Ytanejldglbkacaa
open Go Go.RowKit
set_option linter.unusedVariables false
set_option linter.unusedSimpArgs false
set_option maxHeartbeats 8000000
/-- No restarts, or such as NewRestarts did not return. -/
def Off (p : Option Addr) (w : World) : Prop := p = none ∨ ∃ b, p = some ⟨b, 0, none⟩ ∧ Blk w b 53 #[.int .i64 0, .int .i64 0, .int .i64 0, .int .i64 0, .bool false]
theorem is_off {p : Option Addr} {w : World} (h : Off p w) : Calls Try.prog 37 #[.pointer p] w fun e w' => e = .returned (.bool false) ∧ w = w' := by
  rcases h with rfl | ⟨b, rfl, h⟩
  · go_enter Try.func37, Try.ntmps37
    go_wp2
    go_ret
    exact ⟨rfl, rfl⟩
  · have hc := h.cell 4
    simp at hc
    go_enter Try.func37, Try.ntmps37
    go_wp2
    go_ret
    exact ⟨rfl, rfl⟩
theorem round_off {p : Option Addr} {w : World} (h : Off p w) : Calls Try.prog 21 #[.pointer p] w fun e w' => e = .returned (.int .i64 0) ∧ w = w' := by
  replace h := Lib.hid h
  go_enter Try.func21, Try.ntmps21
  go_wp2_with (go_at_call 37; refine (is_off h.out).mono ?_; rintro e w' ⟨rfl, rfl⟩)
  go_ret
  exact ⟨rfl, rfl⟩
theorem left_off {p : Option Addr} {w : World} (h : Off p w) : Calls Try.prog 22 #[.pointer p] w fun e w' => e = .returned (.int .i64 0) ∧ w = w' := by
  replace h := Lib.hid h
  go_enter Try.func22, Try.ntmps22
  go_wp2_with (go_at_call 37; refine (is_off h.out).mono ?_; rintro e w' ⟨rfl, rfl⟩)
  go_ret
  exact ⟨rfl, rfl⟩
theorem count_off {p : Option Addr} {w : World} (h : Off p w) : Calls Try.prog 20 #[.pointer p] w fun e w' => e = .returned (.int .i64 0) ∧ w = w' := by
  replace h := Lib.hid h
  go_enter Try.func20, Try.ntmps20
  go_wp2_with (go_at_call 37; refine (is_off h.out).mono ?_; rintro e w' ⟨rfl, rfl⟩)
  go_ret
  exact ⟨rfl, rfl⟩
theorem conflict_off {p : Option Addr} {w : World} (h : Off p w) : Calls Try.prog 19 #[.pointer p] w fun e w' => e = .returned (.tuple #[.bool false, .int .i64 1]) ∧ w = w' := by
  replace h := Lib.hid h
  go_enter Try.func19, Try.ntmps19
  go_wp2_with (go_at_call 37; refine (is_off h.out).mono ?_; rintro e w' ⟨rfl, rfl⟩)
  go_ret2
  exact ⟨rfl, rfl⟩
end Go.Proofs.Ytanejldglbkacaa
