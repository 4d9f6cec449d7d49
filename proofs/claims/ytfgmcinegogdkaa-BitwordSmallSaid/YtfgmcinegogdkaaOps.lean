/- The functions of the table of operations, and those of package bitword that return numbers, truths and names: what each returns. -/
import Derived.Test.YtfgmcinegogdkaaTab
import Derived.Test.YtfgmcinegogdkaaPlain
namespace Go.Proofs.Ytfgmcinegogdkaa
open Go.RowKit
set_option linter.unusedVariables false
set_option maxHeartbeats 400000
theorem ret_int {k : IntKind} {a b : Int} (h : a = b) : Ending.returned (.int k a) = .returned (.int k b) := by rw [h]
theorem truth_any (b : Bool) (w : World) : Calls Try.prog 41 #[.bool b] w fun e w' => e = .returned (.int .u32 (if b then 1 else 0)) ∧ w = w' := by
  cases b
  all_goals
    go_enter Try.func41, Try.ntmps41
    go_wp2
    go_ret
    exact ⟨rfl, rfl⟩

theorem op_1 (x y m : Int) (hx : 0 ≤ x) (hy : 0 ≤ y) (hm : 0 ≤ m) (hx' : x ≤ 65535) (hy' : y ≤ 65535) (hm' : m ≤ 65535) (w : World) :
    Calls Try.prog 44 #[.int .u32 x, .int .u32 y, .int .u32 m] w fun e w' => e = .returned (.int .u32 (opW 1 x y m)) ∧ w = w' := by
  go_enter Try.func44, Try.ntmps44
  go_wp2
  go_ret
  exact ⟨rfl, rfl⟩

theorem op_2 (x y m : Int) (hx : 0 ≤ x) (hy : 0 ≤ y) (hm : 0 ≤ m) (hx' : x ≤ 65535) (hy' : y ≤ 65535) (hm' : m ≤ 65535) (w : World) :
    Calls Try.prog 45 #[.int .u32 x, .int .u32 y, .int .u32 m] w fun e w' => e = .returned (.int .u32 (opW 2 x y m)) ∧ w = w' := by
  go_enter Try.func45, Try.ntmps45
  go_wp2
  go_ret
  exact ⟨rfl, rfl⟩

theorem op_3 (x y m : Int) (hx : 0 ≤ x) (hy : 0 ≤ y) (hm : 0 ≤ m) (hx' : x ≤ 65535) (hy' : y ≤ 65535) (hm' : m ≤ 65535) (w : World) :
    Calls Try.prog 46 #[.int .u32 x, .int .u32 y, .int .u32 m] w fun e w' => e = .returned (.int .u32 (opW 3 x y m)) ∧ w = w' := by
  go_enter Try.func46, Try.ntmps46
  go_wp2
  go_ret
  exact ⟨rfl, rfl⟩

theorem op_4 (x y m : Int) (hx : 0 ≤ x) (hy : 0 ≤ y) (hm : 0 ≤ m) (hx' : x ≤ 65535) (hy' : y ≤ 65535) (hm' : m ≤ 65535) (w : World) :
    Calls Try.prog 47 #[.int .u32 x, .int .u32 y, .int .u32 m] w fun e w' => e = .returned (.int .u32 (opW 4 x y m)) ∧ w = w' := by
  go_enter Try.func47, Try.ntmps47
  go_wp2
  go_ret
  exact ⟨rfl, rfl⟩

theorem op_5 (x y m : Int) (hx : 0 ≤ x) (hy : 0 ≤ y) (hm : 0 ≤ m) (hx' : x ≤ 65535) (hy' : y ≤ 65535) (hm' : m ≤ 65535) (w : World) :
    Calls Try.prog 48 #[.int .u32 x, .int .u32 y, .int .u32 m] w fun e w' => e = .returned (.int .u32 (opW 5 x y m)) ∧ w = w' := by
  go_enter Try.func48, Try.ntmps48
  go_wp2
  go_ret
  exact ⟨rfl, rfl⟩

theorem op_6 (x y m : Int) (hx : 0 ≤ x) (hy : 0 ≤ y) (hm : 0 ≤ m) (hx' : x ≤ 65535) (hy' : y ≤ 65535) (hm' : m ≤ 65535) (w : World) :
    Calls Try.prog 49 #[.int .u32 x, .int .u32 y, .int .u32 m] w fun e w' => e = .returned (.int .u32 (opW 6 x y m)) ∧ w = w' := by
  by_cases h : y = 0
  · subst h
    go_enter Try.func49, Try.ntmps49
    go_wp2
    go_ret
    exact ⟨rfl, rfl⟩
  · have h0 : (y == 0) = false := by simp [h]
    have h1 : 1 ≤ y := by omega
    clear h
    go_enter Try.func49, Try.ntmps49
    go_wp2
    go_ret
    exact ⟨ret_int (by unfold opW; simp only []; rw [if_neg (by omega)]), rfl⟩

theorem op_7 (x y m : Int) (hx : 0 ≤ x) (hy : 0 ≤ y) (hm : 0 ≤ m) (hx' : x ≤ 65535) (hy' : y ≤ 65535) (hm' : m ≤ 65535) (w : World) :
    Calls Try.prog 50 #[.int .u32 x, .int .u32 y, .int .u32 m] w fun e w' => e = .returned (.int .u32 (opW 7 x y m)) ∧ w = w' := by
  by_cases h : y = 0
  · subst h
    go_enter Try.func50, Try.ntmps50
    go_wp2
    go_ret
    exact ⟨rfl, rfl⟩
  · have h0 : (y == 0) = false := by simp [h]
    have h1 : 1 ≤ y := by omega
    clear h
    go_enter Try.func50, Try.ntmps50
    go_wp2
    go_ret
    exact ⟨ret_int (by unfold opW; simp only []; rw [if_neg (by omega)]), rfl⟩

theorem op_8 (x y m : Int) (hx : 0 ≤ x) (hy : 0 ≤ y) (hm : 0 ≤ m) (hx' : x ≤ 65535) (hy' : y ≤ 65535) (hm' : m ≤ 65535) (w : World) :
    Calls Try.prog 51 #[.int .u32 x, .int .u32 y, .int .u32 m] w fun e w' => e = .returned (.int .u32 (opW 8 x y m)) ∧ w = w' := by
  go_enter Try.func51, Try.ntmps51
  go_wp2
  go_ret
  exact ⟨ret_int (u32_and x y hx (by omega) hy (by omega)), rfl⟩

theorem op_9 (x y m : Int) (hx : 0 ≤ x) (hy : 0 ≤ y) (hm : 0 ≤ m) (hx' : x ≤ 65535) (hy' : y ≤ 65535) (hm' : m ≤ 65535) (w : World) :
    Calls Try.prog 52 #[.int .u32 x, .int .u32 y, .int .u32 m] w fun e w' => e = .returned (.int .u32 (opW 9 x y m)) ∧ w = w' := by
  go_enter Try.func52, Try.ntmps52
  go_wp2
  go_ret
  exact ⟨ret_int (u32_or x y hx (by omega) hy (by omega)), rfl⟩

theorem op_10 (x y m : Int) (hx : 0 ≤ x) (hy : 0 ≤ y) (hm : 0 ≤ m) (hx' : x ≤ 65535) (hy' : y ≤ 65535) (hm' : m ≤ 65535) (w : World) :
    Calls Try.prog 53 #[.int .u32 x, .int .u32 y, .int .u32 m] w fun e w' => e = .returned (.int .u32 (opW 10 x y m)) ∧ w = w' := by
  go_enter Try.func53, Try.ntmps53
  go_wp2
  go_ret
  exact ⟨ret_int (u32_xor x y hx (by omega) hy (by omega)), rfl⟩

theorem op_11 (x y m : Int) (hx : 0 ≤ x) (hy : 0 ≤ y) (hm : 0 ≤ m) (hx' : x ≤ 65535) (hy' : y ≤ 65535) (hm' : m ≤ 65535) (w : World) :
    Calls Try.prog 54 #[.int .u32 x, .int .u32 y, .int .u32 m] w fun e w' => e = .returned (.int .u32 (opW 11 x y m)) ∧ w = w' := by
  by_cases h : y ≤ 31
  · have e : (min y 31).toNat = y.toNat := by omega
    have E := Lib.hid e
    clear e
    go_enter Try.func54, Try.ntmps54
    go_wp2
    go_ret
    exact ⟨ret_int (by unfold opW; simp only [E.out]), rfl⟩
  · have h3 : 31 < y := by omega
    have e : (min y 31).toNat = 31 := by omega
    have E := Lib.hid e
    clear e
    go_enter Try.func54, Try.ntmps54
    go_wp2
    go_ret
    exact ⟨ret_int (by unfold opW; simp only [E.out]; rfl), rfl⟩

theorem op_12 (x y m : Int) (hx : 0 ≤ x) (hy : 0 ≤ y) (hm : 0 ≤ m) (hx' : x ≤ 65535) (hy' : y ≤ 65535) (hm' : m ≤ 65535) (w : World) :
    Calls Try.prog 55 #[.int .u32 x, .int .u32 y, .int .u32 m] w fun e w' => e = .returned (.int .u32 (opW 12 x y m)) ∧ w = w' := by
  by_cases h : y ≤ 31
  · have e : (min y 31).toNat = y.toNat := by omega
    have E := Lib.hid e
    clear e
    go_enter Try.func55, Try.ntmps55
    go_wp2
    go_ret
    exact ⟨ret_int (by unfold opW; simp only [E.out]), rfl⟩
  · have h3 : 31 < y := by omega
    have e : (min y 31).toNat = 31 := by omega
    have E := Lib.hid e
    clear e
    go_enter Try.func55, Try.ntmps55
    go_wp2
    go_ret
    exact ⟨ret_int (by unfold opW; simp only [E.out]; rfl), rfl⟩

theorem op_13 (x y m : Int) (hx : 0 ≤ x) (hy : 0 ≤ y) (hm : 0 ≤ m) (hx' : x ≤ 65535) (hy' : y ≤ 65535) (hm' : m ≤ 65535) (w : World) :
    Calls Try.prog 56 #[.int .u32 x, .int .u32 y, .int .u32 m] w fun e w' => e = .returned (.int .u32 (opW 13 x y m)) ∧ w = w' := by
  by_cases h : x = y
  · have E : Hid (x = y) := h
    go_enter Try.func56, Try.ntmps56
    go_wp2_with (go_at_call 41; refine (truth_any _ _).mono ?_; rintro e w' ⟨rfl, rfl⟩)
    go_ret
    exact ⟨ret_int (by have := E.out; simp [opW, *]), rfl⟩
  · have E : Hid (¬ x = y) := h
    go_enter Try.func56, Try.ntmps56
    go_wp2_with (go_at_call 41; refine (truth_any _ _).mono ?_; rintro e w' ⟨rfl, rfl⟩)
    go_ret
    exact ⟨ret_int (by have := E.out; simp [opW, *]), rfl⟩

theorem op_14 (x y m : Int) (hx : 0 ≤ x) (hy : 0 ≤ y) (hm : 0 ≤ m) (hx' : x ≤ 65535) (hy' : y ≤ 65535) (hm' : m ≤ 65535) (w : World) :
    Calls Try.prog 57 #[.int .u32 x, .int .u32 y, .int .u32 m] w fun e w' => e = .returned (.int .u32 (opW 14 x y m)) ∧ w = w' := by
  by_cases h : x = y
  · have E : Hid (x = y) := h
    go_enter Try.func57, Try.ntmps57
    go_wp2_with (go_at_call 41; refine (truth_any _ _).mono ?_; rintro e w' ⟨rfl, rfl⟩)
    go_ret
    exact ⟨ret_int (by have := E.out; simp [opW, *]), rfl⟩
  · have E : Hid (¬ x = y) := h
    go_enter Try.func57, Try.ntmps57
    go_wp2_with (go_at_call 41; refine (truth_any _ _).mono ?_; rintro e w' ⟨rfl, rfl⟩)
    go_ret
    exact ⟨ret_int (by have := E.out; simp [opW, *]), rfl⟩

theorem op_15 (x y m : Int) (hx : 0 ≤ x) (hy : 0 ≤ y) (hm : 0 ≤ m) (hx' : x ≤ 65535) (hy' : y ≤ 65535) (hm' : m ≤ 65535) (w : World) :
    Calls Try.prog 58 #[.int .u32 x, .int .u32 y, .int .u32 m] w fun e w' => e = .returned (.int .u32 (opW 15 x y m)) ∧ w = w' := by
  by_cases h : x < y
  · have E : Hid (x < y) := h
    go_enter Try.func58, Try.ntmps58
    go_wp2_with (go_at_call 41; refine (truth_any _ _).mono ?_; rintro e w' ⟨rfl, rfl⟩)
    go_ret
    exact ⟨ret_int (by have := E.out; simp [opW, *]), rfl⟩
  · have E : Hid (¬ x < y) := h
    go_enter Try.func58, Try.ntmps58
    go_wp2_with (go_at_call 41; refine (truth_any _ _).mono ?_; rintro e w' ⟨rfl, rfl⟩)
    go_ret
    exact ⟨ret_int (by have := E.out; simp [opW, *]), rfl⟩

theorem op_16 (x y m : Int) (hx : 0 ≤ x) (hy : 0 ≤ y) (hm : 0 ≤ m) (hx' : x ≤ 65535) (hy' : y ≤ 65535) (hm' : m ≤ 65535) (w : World) :
    Calls Try.prog 59 #[.int .u32 x, .int .u32 y, .int .u32 m] w fun e w' => e = .returned (.int .u32 (opW 16 x y m)) ∧ w = w' := by
  by_cases h : x ≤ y
  · have E : Hid (x ≤ y) := h
    go_enter Try.func59, Try.ntmps59
    go_wp2_with (go_at_call 41; refine (truth_any _ _).mono ?_; rintro e w' ⟨rfl, rfl⟩)
    go_ret
    exact ⟨ret_int (by have := E.out; simp [opW, *]), rfl⟩
  · have E : Hid (¬ x ≤ y) := h
    go_enter Try.func59, Try.ntmps59
    go_wp2_with (go_at_call 41; refine (truth_any _ _).mono ?_; rintro e w' ⟨rfl, rfl⟩)
    go_ret
    exact ⟨ret_int (by have := E.out; simp [opW, *]), rfl⟩


theorem most_bad (n : Int) (w : World) (h : n < 1 ∨ 16 < n) (h1 : -9223372036854775808 ≤ n) (h2 : n ≤ 9223372036854775807) :
    Calls Try.prog 13 #[.int .i64 n] w fun e w' => e = .returned (.tuple #[.int .u32 0, .int .i64 220]) ∧ w = w' := by
  rcases h with h | h
  · go_enter Try.func13, Try.ntmps13
    go_wp2
    go_ret2
    exact ⟨rfl, rfl⟩
  · have h' : ¬ n < 1 := by omega
    go_enter Try.func13, Try.ntmps13
    go_wp2
    go_ret2
    exact ⟨rfl, rfl⟩
theorem ret_tup {k k' : IntKind} {a b c d : Int} (h : a = b) (h' : c = d) : Ending.returned (.tuple #[.int k a, .int k' c]) = .returned (.tuple #[.int k b, .int k' d]) := by rw [h, h']
theorem most_ok (n : Int) (w : World) (h1 : 1 ≤ n) (h2 : n ≤ 16) :
    Calls Try.prog 13 #[.int .i64 n] w fun e w' => e = .returned (.tuple #[.int .u32 (mostW n), .int .i64 0]) ∧ w = w' := by
  go_enter Try.func13, Try.ntmps13
  go_wp2
  go_ret2
  refine ⟨ret_tup ?_ rfl, rfl⟩
  have := pw_bd n h1 h2
  unfold mostW
  show (pw n % 4294967296 - 1) % 4294967296 = _
  omega
theorem name_ok (k : Nat) (nm : ByteArray) (hk : k < 17) (hc : tableC[k*4]? = some (.string nm)) (w : World) :
    Calls Try.prog 23 #[.int .u8 (k : Int)] w fun e w' => e = .returned (.string nm) ∧ Below w.heap.size w w' := by
  go_enter Try.func23, Try.ntmps23
  go_wp2_with (first | (go_at_call 39; refine (table_any _).mono ?_; rintro e w' ⟨rfl, rfl⟩) | (refine wpList_alloc_zero rfl 71 rfl Z71 zero71 ?_) | (refine wpList_store_new rfl 71 _ _ rfl _ Z71 tableC 71 rfl rfl rfl (by kernel_rfl) (by kernel_rfl) (by kernel_rfl) ?_))
  go_ret
  exact ⟨rfl, by go_grown⟩
theorem name_bad (k : Int) (hk : 17 ≤ k) (hk2 : k ≤ 255) (w : World) :
    Calls Try.prog 23 #[.int .u8 k] w fun e w' => e = .returned (.string ⟨#[]⟩) ∧ Below w.heap.size w w' := by
  go_enter Try.func23, Try.ntmps23
  go_wp2_with (first | (go_at_call 39; refine (table_any _).mono ?_; rintro e w' ⟨rfl, rfl⟩) | (refine wpList_alloc_zero rfl 71 rfl Z71 zero71 ?_) | (refine wpList_store_new rfl 71 _ _ rfl _ Z71 tableC 71 rfl rfl rfl (by kernel_rfl) (by kernel_rfl) (by kernel_rfl) ?_))
  go_ret
  exact ⟨rfl, by go_grown⟩
theorem field1 (nm rk tr F : Value) (w : World) : (Instr.field 70 (.agg #[nm, rk, tr, F]) 1).run Try.prog w = .ok rk w := by kernel_rfl
theorem field2 (nm rk tr F : Value) (w : World) : (Instr.field 70 (.agg #[nm, rk, tr, F]) 2).run Try.prog w = .ok tr w := by kernel_rfl
theorem field3 (nm rk tr F : Value) (w : World) : (Instr.field 70 (.agg #[nm, rk, tr, F]) 3).run Try.prog w = .ok F w := by kernel_rfl
/-- A row of the table: number, name, rank, whether the result is a truth, function. -/
structure IsOp (k : Nat) (nm : ByteArray) (rk : Int) (tr : Bool) (F : Nat) : Prop where
  lo : 1 ≤ k
  hi : k < 17
  name : tableC[k*4]? = some (.string nm)
  some : nm.toList.isEmpty = false
  idx : ∀ w, (Instr.index 71 (.agg tableC) (.int .u8 k)).run Try.prog w = .ok (.agg #[.string nm, .int .i64 rk, .bool tr, .func (.func F) #[] #[]]) w
  ent : ∀ (args : Array Value) w, (callFunc F args).run Try.prog w = .ok (.enter F args) w
theorem cut_ok (x n : Int) (w : World) (h1 : 1 ≤ n) (h2 : n ≤ 16) (hx : 0 ≤ x) (hx' : x ≤ 4294967295) :
    Calls Try.prog 12 #[.int .u32 x, .int .i64 n] w fun e w' => e = .returned (.tuple #[.int .u32 (cutW x n), .int .i64 0]) ∧ w = w' := by
  have hb := mostW_bd n h1 h2
  have ha := Lib.hid (and_most x n h1 h2 hx hx')
  go_enter Try.func12, Try.ntmps12
  go_wp2_with (go_at_call 13; refine (most_ok _ _ (by omega) (by omega)).mono ?_; rintro e w' ⟨rfl, rfl⟩)
  go_ret2
  exact ⟨ret_tup ha.out rfl, rfl⟩
theorem cut_bad (x n : Int) (w : World) (h : n < 1 ∨ 16 < n) (h1 : -9223372036854775808 ≤ n) (h2 : n ≤ 9223372036854775807) (hx : 0 ≤ x) (hx' : x ≤ 4294967295) :
    Calls Try.prog 12 #[.int .u32 x, .int .i64 n] w fun e w' => e = .returned (.tuple #[.int .u32 0, .int .i64 220]) ∧ w = w' := by
  have ha : bits .and .u32 x 0 = 0 := by rw [u32_and x 0 hx (by omega) (by omega) (by omega)]; simp
  go_enter Try.func12, Try.ntmps12
  go_wp2_with (go_at_call 13; refine (most_bad _ _ h (by omega) (by omega)).mono ?_; rintro e w' ⟨rfl, rfl⟩)
  go_ret2
  exact ⟨rfl, rfl⟩
theorem apply_ok {k : Nat} {nm : ByteArray} {rk : Int} {tr : Bool} {F : Nat} (o : IsOp k nm rk tr F) (n x y : Int) (h1 : 1 ≤ n) (h2 : n ≤ 16) (hx : 0 ≤ x) (hx' : x ≤ 4294967295) (hy : 0 ≤ y) (hy' : y ≤ 4294967295)
    (hF : ∀ (x y m : Int), 0 ≤ x → 0 ≤ y → 0 ≤ m → x ≤ 65535 → y ≤ 65535 → m ≤ 65535 → ∀ (w : World),
      Calls Try.prog F #[.int .u32 x, .int .u32 y, .int .u32 m] w fun e w' => e = .returned (.int .u32 (opW k x y m)) ∧ w = w') (w : World) :
    Calls Try.prog 22 #[.int .u8 k, .int .i64 n, .int .u32 x, .int .u32 y] w fun e w' => e = .returned (.tuple #[.int .u32 (appW k n x y), .int .i64 0]) ∧ Below w.heap.size w w' := by
  have HF := Lib.hid hF
  clear hF
  have f3 := field3
  have hb := mostW_bd n h1 h2
  have cx := cutW_bd x n h1 h2
  have cy := cutW_bd y n h1 h2
  have ha : bits .and .u32 x (mostW n) = cutW x n := and_most x n h1 h2 hx hx'
  have hb' : bits .and .u32 y (mostW n) = cutW y n := and_most y n h1 h2 hy hy'
  have ob := opW_bd k (cutW x n) (cutW y n) (mostW n) cx.1 (by omega) cy.1 (by omega) (by omega) (by omega)
  have hc := Lib.hid (and_most (opW k (cutW x n) (cutW y n) (mostW n)) n h1 h2 ob.1 ob.2)
  clear ob
  obtain ⟨o1, o2, o3, o4, o5, o6⟩ := o
  have o3' := Lib.hid o3
  clear o3
  go_enter Try.func22, Try.ntmps22
  go_wp2_with (first | (go_at_call 23; refine (name_ok k nm o2 o3'.out _).mono ?_; rintro e w' ⟨rfl, hbn⟩) | (go_at_call 13; refine (most_ok _ _ (by omega) (by omega)).mono ?_; rintro e w' ⟨rfl, rfl⟩) | (go_at_call 39; refine (table_any _).mono ?_; rintro e w' ⟨rfl, rfl⟩) | (refine (HF.out _ _ _ (by omega) (by omega) (by omega) (by omega) (by omega) (by omega) _).mono ?_; rintro e w' ⟨rfl, rfl⟩))
  go_ret2
  exact ⟨ret_tup hc.out rfl, hbn.alloc hbn.size _⟩
def nameT : Nat → ByteArray
  | 1 => ⟨#[126]⟩
  | 2 => ⟨#[45]⟩
  | 3 => ⟨#[43]⟩
  | 4 => ⟨#[45]⟩
  | 5 => ⟨#[42]⟩
  | 6 => ⟨#[47]⟩
  | 7 => ⟨#[37]⟩
  | 8 => ⟨#[38]⟩
  | 9 => ⟨#[124]⟩
  | 10 => ⟨#[94]⟩
  | 11 => ⟨#[60, 60]⟩
  | 12 => ⟨#[62, 62]⟩
  | 13 => ⟨#[61, 61]⟩
  | 14 => ⟨#[33, 61]⟩
  | 15 => ⟨#[60]⟩
  | 16 => ⟨#[60, 61]⟩
  | _ => ⟨#[]⟩
def rankT : Nat → Int
  | 1 => 0
  | 2 => 0
  | 3 => 5
  | 4 => 5
  | 5 => 6
  | 6 => 6
  | 7 => 6
  | 8 => 2
  | 9 => 1
  | 10 => 1
  | 11 => 4
  | 12 => 4
  | 13 => 3
  | 14 => 3
  | 15 => 3
  | 16 => 3
  | _ => 0
def truthT : Nat → Bool
  | 13 => true
  | 14 => true
  | 15 => true
  | 16 => true
  | _ => false
theorem isOp_1 : IsOp 1 (nameT 1) (rankT 1) (truthT 1) 44 := ⟨by omega, by omega, by kernel_rfl, by kernel_rfl, fun _ => by kernel_rfl, fun _ _ => by kernel_rfl⟩
theorem isOp_2 : IsOp 2 (nameT 2) (rankT 2) (truthT 2) 45 := ⟨by omega, by omega, by kernel_rfl, by kernel_rfl, fun _ => by kernel_rfl, fun _ _ => by kernel_rfl⟩
theorem isOp_3 : IsOp 3 (nameT 3) (rankT 3) (truthT 3) 46 := ⟨by omega, by omega, by kernel_rfl, by kernel_rfl, fun _ => by kernel_rfl, fun _ _ => by kernel_rfl⟩
theorem isOp_4 : IsOp 4 (nameT 4) (rankT 4) (truthT 4) 47 := ⟨by omega, by omega, by kernel_rfl, by kernel_rfl, fun _ => by kernel_rfl, fun _ _ => by kernel_rfl⟩
theorem isOp_5 : IsOp 5 (nameT 5) (rankT 5) (truthT 5) 48 := ⟨by omega, by omega, by kernel_rfl, by kernel_rfl, fun _ => by kernel_rfl, fun _ _ => by kernel_rfl⟩
theorem isOp_6 : IsOp 6 (nameT 6) (rankT 6) (truthT 6) 49 := ⟨by omega, by omega, by kernel_rfl, by kernel_rfl, fun _ => by kernel_rfl, fun _ _ => by kernel_rfl⟩
theorem isOp_7 : IsOp 7 (nameT 7) (rankT 7) (truthT 7) 50 := ⟨by omega, by omega, by kernel_rfl, by kernel_rfl, fun _ => by kernel_rfl, fun _ _ => by kernel_rfl⟩
theorem isOp_8 : IsOp 8 (nameT 8) (rankT 8) (truthT 8) 51 := ⟨by omega, by omega, by kernel_rfl, by kernel_rfl, fun _ => by kernel_rfl, fun _ _ => by kernel_rfl⟩
theorem isOp_9 : IsOp 9 (nameT 9) (rankT 9) (truthT 9) 52 := ⟨by omega, by omega, by kernel_rfl, by kernel_rfl, fun _ => by kernel_rfl, fun _ _ => by kernel_rfl⟩
theorem isOp_10 : IsOp 10 (nameT 10) (rankT 10) (truthT 10) 53 := ⟨by omega, by omega, by kernel_rfl, by kernel_rfl, fun _ => by kernel_rfl, fun _ _ => by kernel_rfl⟩
theorem isOp_11 : IsOp 11 (nameT 11) (rankT 11) (truthT 11) 54 := ⟨by omega, by omega, by kernel_rfl, by kernel_rfl, fun _ => by kernel_rfl, fun _ _ => by kernel_rfl⟩
theorem isOp_12 : IsOp 12 (nameT 12) (rankT 12) (truthT 12) 55 := ⟨by omega, by omega, by kernel_rfl, by kernel_rfl, fun _ => by kernel_rfl, fun _ _ => by kernel_rfl⟩
theorem isOp_13 : IsOp 13 (nameT 13) (rankT 13) (truthT 13) 56 := ⟨by omega, by omega, by kernel_rfl, by kernel_rfl, fun _ => by kernel_rfl, fun _ _ => by kernel_rfl⟩
theorem isOp_14 : IsOp 14 (nameT 14) (rankT 14) (truthT 14) 57 := ⟨by omega, by omega, by kernel_rfl, by kernel_rfl, fun _ => by kernel_rfl, fun _ _ => by kernel_rfl⟩
theorem isOp_15 : IsOp 15 (nameT 15) (rankT 15) (truthT 15) 58 := ⟨by omega, by omega, by kernel_rfl, by kernel_rfl, fun _ => by kernel_rfl, fun _ _ => by kernel_rfl⟩
theorem isOp_16 : IsOp 16 (nameT 16) (rankT 16) (truthT 16) 59 := ⟨by omega, by omega, by kernel_rfl, by kernel_rfl, fun _ => by kernel_rfl, fun _ _ => by kernel_rfl⟩
theorem opCases {P : Nat → Prop} (k : Nat) (h1 : 1 ≤ k) (h2 : k ≤ 16) (p1 : P 1) (p2 : P 2) (p3 : P 3) (p4 : P 4) (p5 : P 5) (p6 : P 6) (p7 : P 7) (p8 : P 8) (p9 : P 9) (p10 : P 10) (p11 : P 11) (p12 : P 12) (p13 : P 13) (p14 : P 14) (p15 : P 15) (p16 : P 16) : P k := by
  have : k = 1 ∨ k = 2 ∨ k = 3 ∨ k = 4 ∨ k = 5 ∨ k = 6 ∨ k = 7 ∨ k = 8 ∨ k = 9 ∨ k = 10 ∨ k = 11 ∨ k = 12 ∨ k = 13 ∨ k = 14 ∨ k = 15 ∨ k = 16 := by omega
  rcases this with rfl | rfl | rfl | rfl | rfl | rfl | rfl | rfl | rfl | rfl | rfl | rfl | rfl | rfl | rfl | rfl <;> assumption
theorem isOp_any (k : Nat) (h1 : 1 ≤ k) (h2 : k ≤ 16) : IsOp k (nameT k) (rankT k) (truthT k) (43 + k) :=
  opCases (P := fun k => IsOp k (nameT k) (rankT k) (truthT k) (43 + k)) k h1 h2 isOp_1 isOp_2 isOp_3 isOp_4 isOp_5 isOp_6 isOp_7 isOp_8 isOp_9 isOp_10 isOp_11 isOp_12 isOp_13 isOp_14 isOp_15 isOp_16
theorem apply_any (op n x y : Int) (o1 : 1 ≤ op) (o2 : op ≤ 16) (h1 : 1 ≤ n) (h2 : n ≤ 16) (hx : 0 ≤ x) (hx' : x ≤ 4294967295) (hy : 0 ≤ y) (hy' : y ≤ 4294967295) (w : World) :
    Calls Try.prog 22 #[.int .u8 op, .int .i64 n, .int .u32 x, .int .u32 y] w fun e w' => e = .returned (.tuple #[.int .u32 (appW op.toNat n x y), .int .i64 0]) ∧ Below w.heap.size w w' := by
  obtain ⟨k, rfl⟩ := Int.eq_ofNat_of_zero_le (show 0 ≤ op by omega)
  rw [Int.toNat_natCast]
  refine opCases (P := fun k => Calls Try.prog 22 #[.int .u8 (k : Int), .int .i64 n, .int .u32 x, .int .u32 y] w fun e w' => e = .returned (.tuple #[.int .u32 (appW k n x y), .int .i64 0]) ∧ Below w.heap.size w w') k (by omega) (by omega) ?_ ?_ ?_ ?_ ?_ ?_ ?_ ?_ ?_ ?_ ?_ ?_ ?_ ?_ ?_ ?_
  · exact apply_ok isOp_1 n x y h1 h2 hx hx' hy hy' op_1 w
  · exact apply_ok isOp_2 n x y h1 h2 hx hx' hy hy' op_2 w
  · exact apply_ok isOp_3 n x y h1 h2 hx hx' hy hy' op_3 w
  · exact apply_ok isOp_4 n x y h1 h2 hx hx' hy hy' op_4 w
  · exact apply_ok isOp_5 n x y h1 h2 hx hx' hy hy' op_5 w
  · exact apply_ok isOp_6 n x y h1 h2 hx hx' hy hy' op_6 w
  · exact apply_ok isOp_7 n x y h1 h2 hx hx' hy hy' op_7 w
  · exact apply_ok isOp_8 n x y h1 h2 hx hx' hy hy' op_8 w
  · exact apply_ok isOp_9 n x y h1 h2 hx hx' hy hy' op_9 w
  · exact apply_ok isOp_10 n x y h1 h2 hx hx' hy hy' op_10 w
  · exact apply_ok isOp_11 n x y h1 h2 hx hx' hy hy' op_11 w
  · exact apply_ok isOp_12 n x y h1 h2 hx hx' hy hy' op_12 w
  · exact apply_ok isOp_13 n x y h1 h2 hx hx' hy hy' op_13 w
  · exact apply_ok isOp_14 n x y h1 h2 hx hx' hy hy' op_14 w
  · exact apply_ok isOp_15 n x y h1 h2 hx hx' hy hy' op_15 w
  · exact apply_ok isOp_16 n x y h1 h2 hx hx' hy hy' op_16 w
end Go.Proofs.Ytfgmcinegogdkaa