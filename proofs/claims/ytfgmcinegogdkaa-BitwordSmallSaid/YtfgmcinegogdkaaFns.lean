/- The other functions of package bitword, and the laws' own helpers, as far as they return numbers, truths and names. -/
import Derived.Test.YtfgmcinegogdkaaOps
namespace Go.Proofs.Ytfgmcinegogdkaa
open Go.RowKit
set_option linter.unusedVariables false
set_option maxHeartbeats 400000
theorem name_any (op : Int) (h0 : 0 ≤ op) (h1 : op ≤ 255) (w : World) : Calls Try.prog 23 #[.int .u8 op] w fun e w' => e = .returned (.string (nameT op.toNat)) ∧ Below w.heap.size w w' := by
  obtain ⟨k, rfl⟩ := Int.eq_ofNat_of_zero_le h0
  rw [Int.toNat_natCast]
  by_cases h : 17 ≤ k
  · have e : nameT k = ⟨#[]⟩ := by
      unfold nameT
      split <;> first | omega | rfl
    rw [e]
    exact name_bad _ (by omega) h1 w
  · by_cases hz : k = 0
    · subst hz
      exact name_ok 0 _ (by omega) (by kernel_rfl) w
    · exact name_ok k _ (by omega) (isOp_any k (by omega) (by omega)).name w
theorem nameT_bad (k : Nat) (h : k = 0 ∨ 17 ≤ k) : nameT k = ⟨#[]⟩ := by
  unfold nameT
  split <;> first | omega | rfl
theorem name_none (op : Int) (h : op = 0 ∨ 17 ≤ op) (h1 : op ≤ 255) (w : World) : Calls Try.prog 23 #[.int .u8 op] w fun e w' => e = .returned (.string ⟨#[]⟩) ∧ Below w.heap.size w w' := by
  have := name_any op (by omega) h1 w
  rw [nameT_bad _ (by omega)] at this
  exact this
theorem apply_badop (op n x y : Int) (h : op = 0 ∨ 17 ≤ op) (h1 : op ≤ 255) (w : World) :
    Calls Try.prog 22 #[.int .u8 op, .int .i64 n, .int .u32 x, .int .u32 y] w fun e w' => e = .returned (.tuple #[.int .u32 0, .int .i64 221]) ∧ Below w.heap.size w w' := by
  have H := Lib.hid h
  clear h
  go_enter Try.func22, Try.ntmps22
  go_wp2_with (go_at_call 23; refine (name_none _ H.out h1 _).mono ?_; rintro e w' ⟨rfl, hb⟩)
  go_ret2
  exact ⟨rfl, hb⟩
theorem name_some (op : Int) (o1 : 1 ≤ op) (o2 : op ≤ 16) (w : World) : Calls Try.prog 23 #[.int .u8 op] w fun e w' => ∃ nm : ByteArray, nm.toList.isEmpty = false ∧ e = .returned (.string nm) ∧ Below w.heap.size w w' :=
  (name_any op (by omega) (by omega) w).mono fun e w' h => ⟨_, (isOp_any op.toNat (by omega) (by omega)).some, h.1, h.2⟩
theorem apply_badwidth (op n x y : Int) (o1 : 1 ≤ op) (o2 : op ≤ 16) (h : n < 1 ∨ 16 < n) (h1 : -9223372036854775808 ≤ n) (h2 : n ≤ 9223372036854775807) (w : World) :
    Calls Try.prog 22 #[.int .u8 op, .int .i64 n, .int .u32 x, .int .u32 y] w fun e w' => e = .returned (.tuple #[.int .u32 0, .int .i64 220]) ∧ Below w.heap.size w w' := by
  have H := Lib.hid h
  clear h
  go_enter Try.func22, Try.ntmps22
  go_wp2_with (first | (go_at_call 23; refine (name_some _ o1 o2 _).mono ?_; rintro e w' ⟨nm, hnm, rfl, hb⟩) | (go_at_call 13; refine (most_bad _ _ H.out h1 h2).mono ?_; rintro e w' ⟨rfl, rfl⟩))
  go_ret2
  exact ⟨rfl, hb⟩
def wideW (k : Nat) (n : Int) : Int := if 13 ≤ k then 1 else n
theorem width_badop (op n : Int) (h : op = 0 ∨ 17 ≤ op) (h1 : op ≤ 255) (w : World) :
    Calls Try.prog 20 #[.int .u8 op, .int .i64 n] w fun e w' => e = .returned (.tuple #[.int .i64 0, .int .i64 221]) ∧ Below w.heap.size w w' := by
  have H := Lib.hid h
  clear h
  go_enter Try.func20, Try.ntmps20
  go_wp2_with (go_at_call 23; refine (name_none _ H.out h1 _).mono ?_; rintro e w' ⟨rfl, hb⟩)
  go_ret2
  exact ⟨rfl, hb⟩
theorem width_badwidth (op n : Int) (o1 : 1 ≤ op) (o2 : op ≤ 16) (h : n < 1 ∨ 16 < n) (h1 : -9223372036854775808 ≤ n) (h2 : n ≤ 9223372036854775807) (w : World) :
    Calls Try.prog 20 #[.int .u8 op, .int .i64 n] w fun e w' => e = .returned (.tuple #[.int .i64 0, .int .i64 220]) ∧ Below w.heap.size w w' := by
  have H := Lib.hid h
  clear h
  go_enter Try.func20, Try.ntmps20
  go_wp2_with (first | (go_at_call 23; refine (name_some _ o1 o2 _).mono ?_; rintro e w' ⟨nm, hnm, rfl, hb⟩) | (go_at_call 13; refine (most_bad _ _ H.out h1 h2).mono ?_; rintro e w' ⟨rfl, rfl⟩))
  go_ret2
  exact ⟨rfl, hb⟩
theorem width_ok (op n : Int) (o1 : 1 ≤ op) (o2 : op ≤ 16) (h1 : 1 ≤ n) (h2 : n ≤ 16) (w : World) :
    Calls Try.prog 20 #[.int .u8 op, .int .i64 n] w fun e w' => e = .returned (.tuple #[.int .i64 (wideW op.toNat n), .int .i64 0]) ∧ Below w.heap.size w w' := by
  obtain ⟨k, rfl⟩ := Int.eq_ofNat_of_zero_le (show 0 ≤ op by omega)
  rw [Int.toNat_natCast]
  have f2 := field2
  have E : Hid (truthT k = decide (13 ≤ k)) := by
    refine opCases (P := fun k => truthT k = decide (13 ≤ k)) k (by omega) (by omega) ?_ ?_ ?_ ?_ ?_ ?_ ?_ ?_ ?_ ?_ ?_ ?_ ?_ ?_ ?_ ?_ <;> rfl
  have e5 := (isOp_any k (by omega) (by omega)).idx
  by_cases h : 13 ≤ k
  · have E2 : truthT k = true := by rw [E.out]; simp [h]
    rw [E2] at e5
    have E2 := Lib.hid E2
    go_enter Try.func20, Try.ntmps20
    go_wp2_with (first | (go_at_call 23; refine (name_some _ o1 o2 _).mono ?_; rintro e w' ⟨nm, hnm, rfl, hb⟩) | (go_at_call 39; refine (table_any _).mono ?_; rintro e w' ⟨rfl, rfl⟩) | (go_at_call 13; refine (most_ok _ _ h1 h2).mono ?_; rintro e w' ⟨rfl, rfl⟩))
    go_ret2
    exact ⟨ret_tup (by simp [wideW, h]) rfl, hb.alloc hb.size _⟩
  · have E2 : truthT k = false := by rw [E.out]; simp [h]
    rw [E2] at e5
    have E2 := Lib.hid E2
    go_enter Try.func20, Try.ntmps20
    go_wp2_with (first | (go_at_call 23; refine (name_some _ o1 o2 _).mono ?_; rintro e w' ⟨nm, hnm, rfl, hb⟩) | (go_at_call 39; refine (table_any _).mono ?_; rintro e w' ⟨rfl, rfl⟩) | (go_at_call 13; refine (most_ok _ _ h1 h2).mono ?_; rintro e w' ⟨rfl, rfl⟩))
    go_ret2
    exact ⟨ret_tup (by simp [wideW, h]) rfl, hb.alloc hb.size _⟩
theorem rank_bad (op : Int) (h : op = 0 ∨ 17 ≤ op) (h1 : op ≤ 255) (w : World) : Calls Try.prog 24 #[.int .u8 op] w fun e w' => e = .returned (.int .i64 0) ∧ Below w.heap.size w w' := by
  have H := Lib.hid h
  clear h
  go_enter Try.func24, Try.ntmps24
  go_wp2_with (go_at_call 23; refine (name_none _ H.out h1 _).mono ?_; rintro e w' ⟨rfl, hb⟩)
  go_ret
  exact ⟨rfl, hb⟩
theorem rank_ok (op : Int) (o1 : 1 ≤ op) (o2 : op ≤ 16) (w : World) : Calls Try.prog 24 #[.int .u8 op] w fun e w' => e = .returned (.int .i64 (rankT op.toNat)) ∧ Below w.heap.size w w' := by
  obtain ⟨k, rfl⟩ := Int.eq_ofNat_of_zero_le (show 0 ≤ op by omega)
  rw [Int.toNat_natCast]
  have f1 := field1
  have e5 := (isOp_any k (by omega) (by omega)).idx
  go_enter Try.func24, Try.ntmps24
  go_wp2_with (first | (go_at_call 23; refine (name_some _ o1 o2 _).mono ?_; rintro e w' ⟨nm, hnm, rfl, hb⟩) | (go_at_call 39; refine (table_any _).mono ?_; rintro e w' ⟨rfl, rfl⟩))
  go_ret
  exact ⟨rfl, hb.alloc hb.size _⟩
theorem rankT_bad (k : Nat) (h : k = 0 ∨ 17 ≤ k) : rankT k = 0 := by
  unfold rankT
  split <;> first | omega | rfl
theorem rank_any (op : Int) (h0 : 0 ≤ op) (h1 : op ≤ 255) (w : World) : Calls Try.prog 24 #[.int .u8 op] w fun e w' => e = .returned (.int .i64 (rankT op.toNat)) ∧ Below w.heap.size w w' := by
  by_cases h : 1 ≤ op ∧ op ≤ 16
  · exact rank_ok op h.1 h.2 w
  · rw [rankT_bad _ (by omega)]
    exact rank_bad op (by omega) h1 w
theorem rankT_bd (k : Nat) : 0 ≤ rankT k ∧ rankT k ≤ 6 := by
  unfold rankT
  split <;> omega
def twoT (k : Nat) : Bool := decide (0 < rankT k)
theorem two_any (op : Int) (h0 : 0 ≤ op) (h1 : op ≤ 255) (w : World) : Calls Try.prog 25 #[.int .u8 op] w fun e w' => e = .returned (.bool (twoT op.toNat)) ∧ Below w.heap.size w w' := by
  go_enter Try.func25, Try.ntmps25
  go_wp2_with (go_at_call 24; refine (rank_any _ h0 h1 _).mono ?_; rintro e w' ⟨rfl, hb⟩)
  go_ret
  exact ⟨rfl, hb⟩
theorem do_ok (op n x y : Int) (o1 : 1 ≤ op) (o2 : op ≤ 16) (h1 : 1 ≤ n) (h2 : n ≤ 16) (hx : 0 ≤ x) (hx' : x ≤ 4294967295) (hy : 0 ≤ y) (hy' : y ≤ 4294967295) (w : World) :
    Calls Try.prog 15 #[.int .u8 op, .int .i64 n, .int .u32 x, .int .u32 y] w fun e w' => e = .returned (.int .u32 (appW op.toNat n x y)) ∧ Below w.heap.size w w' := by
  go_enter Try.func15, Try.ntmps15
  go_wp2_with (go_at_call 22; refine (apply_any _ _ _ _ o1 o2 h1 h2 hx hx' hy hy' _).mono ?_; rintro e w' ⟨rfl, hb⟩)
  go_ret
  exact ⟨rfl, hb⟩
theorem is_ok (op n x y z : Int) (o1 : 1 ≤ op) (o2 : op ≤ 16) (h1 : 1 ≤ n) (h2 : n ≤ 16) (hx : 0 ≤ x) (hx' : x ≤ 4294967295) (hy : 0 ≤ y) (hy' : y ≤ 4294967295) (w : World) :
    Calls Try.prog 29 #[.int .u8 op, .int .i64 n, .int .u32 x, .int .u32 y, .int .u32 z] w fun e w' => e = .returned (.bool (appW op.toNat n x y == z)) ∧ Below w.heap.size w w' := by
  go_enter Try.func29, Try.ntmps29
  go_wp2_with (go_at_call 22; refine (apply_any _ _ _ _ o1 o2 h1 h2 hx hx' hy hy' _).mono ?_; rintro e w' ⟨rfl, hb⟩)
  go_ret
  exact ⟨rfl, hb⟩
end Go.Proofs.Ytfgmcinegogdkaa
