/- The reference's Wide, Names, Rank, Join. -/
import Derived.Test.YtfgmcinegogdkaaRefA
namespace Go.Proofs.Ytfgmcinegogdkaa
open Go.RowKit
set_option linter.unusedVariables false
set_option maxHeartbeats 1000000
theorem rwide_badop (op n : Int) (h : op < 1 ∨ 16 < op) (w : World) : Calls Try.prog 34 #[.int .i64 op, .int .i64 n] w fun e w' => e = .returned (.tuple #[.int .i64 0, .int .i64 221]) ∧ w = w' := by
  rcases h with h | h
  · go_enter Try.func34, Try.ntmps34
    go_wp2_with fail
    go_ret2
    exact ⟨rfl, rfl⟩
  · have h' : ¬ op < 1 := by omega
    go_enter Try.func34, Try.ntmps34
    go_wp2_with fail
    go_ret2
    exact ⟨rfl, rfl⟩
theorem rwide_badwidth (op n : Int) (o1 : 1 ≤ op) (o2 : op ≤ 16) (h : n < 1 ∨ 16 < n) (h1 : -9223372036854775808 ≤ n) (h2 : n ≤ 9223372036854775807) (w : World) :
    Calls Try.prog 34 #[.int .i64 op, .int .i64 n] w fun e w' => e = .returned (.tuple #[.int .i64 0, .int .i64 220]) ∧ w = w' := by
  have H := Lib.hid h
  clear h
  go_enter Try.func34, Try.ntmps34
  go_wp2_with (go_at_call 31; refine (rwidth_no _ H.out h1 h2 _).mono ?_; rintro e w' ⟨rfl, rfl⟩)
  go_ret2
  exact ⟨rfl, rfl⟩
theorem rwide_ok (op n : Int) (o1 : 1 ≤ op) (o2 : op ≤ 16) (h1 : 1 ≤ n) (h2 : n ≤ 16) (w : World) :
    Calls Try.prog 34 #[.int .i64 op, .int .i64 n] w fun e w' => e = .returned (.tuple #[.int .i64 (wideW op.toNat n), .int .i64 0]) ∧ w = w' := by
  by_cases h : 13 ≤ op
  · go_enter Try.func34, Try.ntmps34
    go_wp2_with (go_at_call 31; refine (rwidth_yes _ h1 h2 _).mono ?_; rintro e w' ⟨rfl, rfl⟩)
    go_ret2
    exact ⟨ret_tup (by unfold wideW; rw [if_pos (by omega)]) rfl, rfl⟩
  · go_enter Try.func34, Try.ntmps34
    go_wp2_with (go_at_call 31; refine (rwidth_yes _ h1 h2 _).mono ?_; rintro e w' ⟨rfl, rfl⟩)
    go_ret2
    exact ⟨ret_tup (by unfold wideW; rw [if_neg (by omega)]) rfl, rfl⟩
def rankL : Array Value := #[.int .i64 0, .int .i64 0, .int .i64 0, .int .i64 5, .int .i64 5, .int .i64 6, .int .i64 6, .int .i64 6, .int .i64 2, .int .i64 1, .int .i64 1, .int .i64 4, .int .i64 4, .int .i64 3, .int .i64 3, .int .i64 3, .int .i64 3]
theorem rankL_at (k : Nat) (h : k ≤ 16) : rankL[k]? = some (.int .i64 (rankT k)) := by
  by_cases hz : k = 0
  · subst hz; rfl
  · refine opCases (P := fun k => rankL[k]? = some (.int .i64 (rankT k))) k (by omega) h ?_ ?_ ?_ ?_ ?_ ?_ ?_ ?_ ?_ ?_ ?_ ?_ ?_ ?_ ?_ ?_ <;> rfl
theorem rrank_any (op : Int) (h0 : 0 ≤ op) (h1 : op ≤ 255) (w : World) : Calls Try.prog 30 #[.int .i64 op] w fun e w' => e = .returned (.int .i64 (rankT op.toNat)) ∧ Below w.heap.size w w' := by
  by_cases h : op ≤ 16
  · obtain ⟨k, rfl⟩ := Int.eq_ofNat_of_zero_le h0
    rw [Int.toNat_natCast]
    have hk : k < 17 := by omega
    have hc : ∀ w : World, (w.alloc (.cells rankL 3)).cell? ⟨w.heap.size, k, none⟩ = some (.int .i64 (rankT k)) := fun w => by
      rw [World.cell?_alloc_at _ _ _ _ rfl]; exact rankL_at k (by omega)
    unfold rankL at hc
    go_enter Try.func30, Try.ntmps30
    go_wp2
    go_ret
    exact ⟨rfl, (Below.refl _ _).alloc (Nat.le_refl _) _⟩
  · rw [rankT_bad _ (by omega)]
    have h' : 17 ≤ op := by omega
    clear h
    go_enter Try.func30, Try.ntmps30
    go_wp2
    go_ret
    exact ⟨rfl, (Below.refl _ _).alloc (Nat.le_refl _) _⟩
/-! Join: from the last bit on. -/
def numFrom (f : Nat → Bool) (i : Nat) : Nat → Nat
  | 0 => 0
  | n + 1 => 2 * numFrom f (i + 1) n + if f i then 1 else 0
theorem numFrom_lt (f : Nat → Bool) (n : Nat) : ∀ i, numFrom f i n < 2 ^ n := by
  induction n with
  | zero => intro i; exact Nat.one_pos
  | succ n ih =>
    intro i
    have := ih (i + 1)
    show 2 * numFrom f (i + 1) n + (if f i then 1 else 0) < _
    rw [Nat.pow_succ]
    split <;> omega
theorem numFrom_join (f : Nat → Bool) (n : Nat) : ∀ i, numB f i + 2 ^ i * numFrom f i n = numB f (i + n) := by
  induction n with
  | zero => intro i; show _ + 2 ^ i * 0 = _; simp
  | succ n ih =>
    intro i
    have := ih (i + 1)
    rw [show i + (n + 1) = i + 1 + n by omega, ← this]
    show numB f i + 2 ^ i * (2 * numFrom f (i + 1) n + (if f i then 1 else 0)) = (numB f i + if f i then 2 ^ i else 0) + 2 ^ (i + 1) * numFrom f (i + 1) n
    rw [Nat.mul_add, Nat.pow_succ, Nat.mul_assoc]
    split <;> omega
theorem numFrom_all (f : Nat → Bool) (n : Nat) : numFrom f 0 n = numB f n := by
  have := numFrom_join f n 0
  simpa [numB] using this
theorem join_ok (b off len cap : Nat) (f : Nat → Bool) (h2 : len ≤ 16) (w : World) (hc : ∀ j, j < len → w.cell? ⟨b, off + j, none⟩ = some (.bool (f j))) :
    Calls Try.prog 32 #[.slice (some ⟨b, off, none⟩) len cap] w fun e w' => e = .returned (.int .i64 (numB f len)) ∧ w = w' := by
  have HC := Lib.hid hc
  clear hc
  go_enter Try.func32, Try.ntmps32
  go_wp2
  go_loop [3, 4] (fun x i => ∃ k : Nat, k ≤ len ∧ i = .int .i64 ((k : Int) - 1) ∧ x = .int .i64 (numFrom f k (len - k))) (fun _ i => (intOf i + 1).toNat)
  case atStart => exact ⟨len, by omega, rfl, by rw [Nat.sub_self]; rfl⟩
  case round =>
    obtain ⟨k, hk, rfl, rfl⟩ := hrel
    by_cases hz : k = 0
    · subst hz
      have hx := numFrom_all f len
      have HX := Lib.hid hx
      clear hx
      simp only [Nat.sub_zero, HX.out]
      go_wp2
      go_ret
      exact ⟨rfl, rfl⟩
    · obtain ⟨i, rfl⟩ : ∃ i, k = i + 1 := ⟨k - 1, by omega⟩
      have hcell := HC.out i (by omega)
      have hb := numFrom_lt f (len - (i + 1)) (i + 1)
      have hp := pow_le_16 (len - (i + 1)) (by omega)
      have hs : Hid (numFrom f i (len - i) = 2 * numFrom f (i + 1) (len - (i + 1)) + if f i then 1 else 0) := by
        show numFrom f i (len - i) = _
        rw [show len - i = (len - (i + 1)) + 1 by omega]
        rfl
      have hb2 : numFrom f (i + 1) (len - (i + 1)) ≤ 65536 := by omega
      clear hb hp
      generalize numFrom f (i + 1) (len - (i + 1)) = z at *
      have e1 : ((i + 1 : Nat) : Int) - 1 = i := by omega
      rw [e1]
      clear e1
      cases hf : f i
      · rw [hf] at hcell
        have HF := Lib.hid hf
        clear hf
        go_wp2
        go_round
        case rel => exact ⟨i, by omega, by go_num, by rw [hs.out, HF.out]; simp; omega⟩
        case measure => simp [intOf]
      · rw [hf] at hcell
        have HF := Lib.hid hf
        clear hf
        go_wp2
        go_round
        case rel => exact ⟨i, by omega, by go_num, by rw [hs.out, HF.out]; simp; omega⟩
        case measure => simp [intOf]
end Go.Proofs.Ytfgmcinegogdkaa
