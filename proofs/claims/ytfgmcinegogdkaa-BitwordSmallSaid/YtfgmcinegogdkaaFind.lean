/- Find, Bit. -/
import Derived.Test.YtfgmcinegogdkaaFns
namespace Go.Proofs.Ytfgmcinegogdkaa
open Go.RowKit
set_option linter.unusedVariables false
set_option maxHeartbeats 400000
/-- Is operation k the one with this name, of two words or of one? -/
def isIt (s : ByteArray) (two : Bool) (k : Nat) : Bool := ((nameT k).toList == s.toList) && (twoT k == two)
def findFrom (s : ByteArray) (two : Bool) : Nat → Nat → Nat
  | 0, _ => 0
  | f + 1, k => if isIt s two k then k else findFrom s two f (k + 1)
def findT (s : ByteArray) (two : Bool) : Nat := findFrom s two 16 1
theorem find_any (s : ByteArray) (two : Bool) (w : World) :
    Calls Try.prog 28 #[.string s, .bool two] w fun e w' => e = .returned (.tuple #[.int .u8 (findT s two), .bool (decide (0 < findT s two))]) ∧ Below w.heap.size w w' := by
  go_enter Try.func28, Try.ntmps28
  go_wp2
  go_loopw [6] (fun i wr => ∃ k : Nat, 1 ≤ k ∧ k ≤ 17 ∧ i = .int .u8 k ∧ findT s two = findFrom s two (17 - k) k ∧ Below w.heap.size w wr) (fun i _ => 17 - (intOf i).toNat)
  case atStart => exact ⟨1, by omega, by omega, rfl, rfl, Below.refl _ _⟩
  case round =>
    obtain ⟨k, hk1, hk2, rfl, hf, hb⟩ := hrel
    have HF := Lib.hid hf
    clear hf
    by_cases hlt : k < 17
    · have hstep : Hid (findFrom s two (17 - k) k = if isIt s two k then k else findFrom s two (17 - (k + 1)) (k + 1)) := by
        obtain ⟨f, hf⟩ : ∃ f, 17 - k = f + 1 := ⟨17 - k - 1, by omega⟩
        have : 17 - (k + 1) = f := by omega
        show findFrom s two (17 - k) k = _
        rw [hf, this]; rfl
      by_cases hn : ((nameT k).toList == s.toList) = true
      · by_cases ht : (twoT k == two) = true
        · have hi : Hid (isIt s two k = true) := by show isIt s two k = true; simp only [isIt, hn, ht, Bool.and_self]
          go_wp2_with (first | (go_at_call 23; refine (name_any _ (by omega) (by omega) _).mono ?_; rintro e w1 ⟨rfl, hb1⟩) | (go_at_call 25; refine (two_any _ (by omega) (by omega) _).mono ?_; rintro e w2 ⟨rfl, hb2⟩))
          go_ret2
          have hv : findT s two = k := by rw [HF.out, hstep.out, hi.out]; rfl
          refine ⟨?_, (hb.trans (hb1.mono hb.size)).trans (hb2.mono (Nat.le_trans hb.size hb1.size))⟩
          rw [hv]
          simp only [show (0 < k) = True from eq_true (by omega), decide_true]
          rfl
        · simp only [Bool.not_eq_true] at ht
          have hi : Hid (isIt s two k = false) := by show isIt s two k = false; simp only [isIt, hn, ht, Bool.and_false]
          go_wp2_with (first | (go_at_call 23; refine (name_any _ (by omega) (by omega) _).mono ?_; rintro e w1 ⟨rfl, hb1⟩) | (go_at_call 25; refine (two_any _ (by omega) (by omega) _).mono ?_; rintro e w2 ⟨rfl, hb2⟩))
          go_roundw
          case rel => exact ⟨k + 1, by omega, by omega, by go_num, by rw [HF.out, hstep.out, hi.out]; rfl, (hb.trans (hb1.mono hb.size)).trans (hb2.mono (Nat.le_trans hb.size hb1.size))⟩
          case measure => simp [intOf]; omega
      · simp only [Bool.not_eq_true] at hn
        have hi : Hid (isIt s two k = false) := by show isIt s two k = false; simp only [isIt, hn, Bool.false_and]
        go_wp2_with (first | (go_at_call 23; refine (name_any _ (by omega) (by omega) _).mono ?_; rintro e w1 ⟨rfl, hb1⟩))
        go_roundw
        case rel => exact ⟨k + 1, by omega, by omega, by go_num, by rw [HF.out, hstep.out, hi.out]; rfl, hb.trans (hb1.mono hb.size)⟩
        case measure => simp [intOf]; omega
    · obtain rfl : k = 17 := by omega
      go_wp2
      go_ret2
      have hv : findT s two = 0 := by rw [HF.out]; rfl
      exact ⟨by rw [hv]; rfl, hb⟩
/-- Bit i of a word. -/
def bitW (x i : Int) : Bool := decide (0 ≤ i) && (decide (i < 32) && (x / 2 ^ i.toNat % 2 == 1))
theorem bit_any (x i : Int) (hx : 0 ≤ x) (hx' : x ≤ 4294967295) (h1 : -9223372036854775808 ≤ i) (h2 : i ≤ 9223372036854775807) (w : World) :
    Calls Try.prog 36 #[.int .u32 x, .int .i64 i] w fun e w' => e = .returned (.bool (bitW x i)) ∧ w = w' := by
  by_cases a : 0 ≤ i
  · by_cases b : i < 32
    · have hd : 0 ≤ x / 2 ^ i.toNat := Int.ediv_nonneg hx (Int.le_of_lt (Int.pow_pos (by omega)))
      have hd2 : x / 2 ^ i.toNat ≤ x := Int.ediv_le_self _ hx
      have ha : bits .and .u32 (x / 2 ^ i.toNat) 1 = x / 2 ^ i.toNat % 2 := by
        have := u32_and (x / 2 ^ i.toNat) 1 hd (by omega) (by omega) (by omega)
        rw [this]
        have e : (1 : Int).toNat = 1 := rfl
        rw [e, nat_mask1]
        omega
      have hv : Hid (bitW x i = (x / 2 ^ i.toNat % 2 == 1)) := by show bitW x i = _; unfold bitW; simp [a, b]
      go_enter Try.func36, Try.ntmps36
      go_wp2
      go_ret
      exact ⟨by rw [hv.out]; rfl, rfl⟩
    · have hv : Hid (bitW x i = false) := by show bitW x i = _; unfold bitW; simp [a, b]
      have b' : 32 ≤ i := by omega
      clear b
      go_enter Try.func36, Try.ntmps36
      go_wp2
      go_ret
      exact ⟨by rw [hv.out]; rfl, rfl⟩
  · have hv : Hid (bitW x i = false) := by show bitW x i = _; unfold bitW; simp [a]
    have a' : i < 0 := by omega
    clear a
    go_enter Try.func36, Try.ntmps36
    go_wp2
    go_ret
    exact ⟨by rw [hv.out]; rfl, rfl⟩
end Go.Proofs.Ytfgmcinegogdkaa
