/- The reference's plain, Apply: what it returns is what the program's functions compute. -/
import Derived.Test.YtfgmcinegogdkaaRefC
namespace Go.Proofs.Ytfgmcinegogdkaa
open Go.RowKit
set_option linter.unusedVariables false
set_option linter.unusedSimpArgs false
set_option maxHeartbeats 2000000
set_option linter.unusedSectionVars false
section
variable (n : Int) (h1 : 1 ≤ n) (h2 : n ≤ 16) (X Y : Int) (hX : 0 ≤ X ∧ X ≤ mostW n) (hY : 0 ≤ Y ∧ Y ≤ mostW n)
include h1 h2 hX hY
theorem cX : cutW X n = X := cutW_of_lt X n hX.1 hX.2
theorem cY : cutW Y n = Y := cutW_of_lt Y n hY.1 hY.2
theorem app_words (k : Nat) : appW k n X Y = opW k X Y (mostW n) % pw n := by
  unfold appW
  rw [cX n h1 h2 X Y hX hY, cY n h1 h2 X Y hX hY]
theorem plain1 : pw n - 1 - X = appW 1 n X Y := by
  rw [app_words n h1 h2 X Y hX hY]
  have hm := mostW_bd n h1 h2
  show _ = (mostW n - X) % 4294967296 % pw n
  have e : (mostW n - X) % 4294967296 = mostW n - X := Int.emod_eq_of_lt (by omega) (by omega)
  rw [e, mod_of_bd n h1 h2 _ (by omega) (by omega)]
  rfl
theorem plain2 : cutW (pw n - X) n = appW 2 n X Y := by
  rw [appW_neg n h1 h2]
  unfold cutW
  rw [Int.sub_eq_add_neg, Int.add_comm, Int.add_emod_right]
theorem plain3 : cutW (X + Y) n = appW 3 n X Y := by rw [appW_add n h1 h2]; rfl
theorem plain4 : cutW (X + pw n - Y) n = appW 4 n X Y := by
  rw [appW_sub n h1 h2]
  unfold cutW
  rw [show X + pw n - Y = X - Y + pw n by omega, Int.add_emod_right]
theorem plain5 : cutW (X * Y) n = appW 5 n X Y := by rw [appW_mul n h1 h2]; rfl
theorem plain6z (h : Y = 0) : pw n - 1 = appW 6 n X Y := by
  have hm := mostW_bd n h1 h2
  rw [app_words n h1 h2 X Y hX hY]
  show _ = (if Y = 0 then mostW n else X / Y) % pw n
  rw [if_pos h, mod_of_bd n h1 h2 _ (by omega) (by omega)]
  rfl
theorem plain6 (h : Y ≠ 0) : X / Y = appW 6 n X Y := by
  have hm := mostW_bd n h1 h2
  rw [app_words n h1 h2 X Y hX hY]
  show _ = (if Y = 0 then mostW n else X / Y) % pw n
  have h3 : X / Y ≤ X := Int.ediv_le_self _ hX.1
  have h4 : 0 ≤ X / Y := Int.ediv_nonneg hX.1 hY.1
  rw [if_neg h, mod_of_bd n h1 h2 _ h4 (by omega)]
theorem plain7z (h : Y = 0) : X = appW 7 n X Y := by
  rw [app_words n h1 h2 X Y hX hY]
  show _ = (if Y = 0 then X else X % Y) % pw n
  rw [if_pos h, mod_of_bd n h1 h2 _ hX.1 hX.2]
theorem plain7 (h : Y ≠ 0) : X - Y * (X / Y) = appW 7 n X Y := by
  rw [app_words n h1 h2 X Y hX hY]
  show _ = (if Y = 0 then X else X % Y) % pw n
  have h3 : X % Y < Y := Int.emod_lt_of_pos _ (by omega)
  have h4 : 0 ≤ X % Y := Int.emod_nonneg _ h
  have h5 := Int.mul_ediv_add_emod X Y
  rw [if_neg h, mod_of_bd n h1 h2 _ h4 (by omega)]
  omega
theorem pow_dvd_min (h : n ≤ Y) : pw n ∣ 2 ^ (min Y 31).toNat := by
  unfold pw
  have e : (min Y 31).toNat = n.toNat + ((min Y 31).toNat - n.toNat) := by omega
  rw [e, Int.pow_add]
  exact ⟨_, rfl⟩
theorem plain11z (h : n ≤ Y) : (0 : Int) = appW 11 n X Y := by
  rw [app_words n h1 h2 X Y hX hY]
  show _ = X * 2 ^ (min Y 31).toNat % 4294967296 % pw n
  rw [Int.emod_emod_of_dvd _ (pw_dvd n h1 h2)]
  exact (Int.emod_eq_zero_of_dvd (Int.dvd_trans (pow_dvd_min n h1 h2 X Y hX hY h) (Int.dvd_mul_left _ _))).symm
theorem plain11 (h : Y < n) : cutW (X * pw Y) n = appW 11 n X Y := by
  rw [app_words n h1 h2 X Y hX hY]
  show _ = X * 2 ^ (min Y 31).toNat % 4294967296 % pw n
  rw [Int.emod_emod_of_dvd _ (pw_dvd n h1 h2), show min Y 31 = Y by omega]
  rfl
theorem plain12z (h : n ≤ Y) : (0 : Int) = appW 12 n X Y := by
  rw [app_words n h1 h2 X Y hX hY]
  show _ = X / 2 ^ (min Y 31).toNat % pw n
  have hlt : X < 2 ^ (min Y 31).toNat := by
    have hp : pw n ≤ 2 ^ (min Y 31).toNat := Int.le_of_dvd (Int.pow_pos (by omega)) (pow_dvd_min n h1 h2 X Y hX hY h)
    have : mostW n = pw n - 1 := rfl
    omega
  rw [Int.ediv_eq_zero_of_lt hX.1 hlt]
  rfl
theorem plain12 (h : Y < n) : X / pw Y = appW 12 n X Y := by
  rw [app_words n h1 h2 X Y hX hY]
  show _ = X / 2 ^ (min Y 31).toNat % pw n
  rw [show min Y 31 = Y by omega]
  have h3 : X / pw Y ≤ X := Int.ediv_le_self _ hX.1
  have h4 : 0 ≤ X / pw Y := Int.ediv_nonneg hX.1 (by have := pw_pos Y; omega)
  exact (mod_of_bd n h1 h2 _ h4 (by omega)).symm
theorem plain_bop (op : Int) (ho : 8 ≤ op) (ho' : op ≤ 10) : ((numB (bopF op X Y) n.toNat : Nat) : Int) = appW op.toNat n X Y := by
  have hp : ((2 : Int) ^ n.toNat) = ((2 ^ n.toNat : Nat) : Int) := by simp
  have hm : mostW n = ((2 ^ n.toNat : Nat) : Int) - 1 := by show pw n - 1 = _; unfold pw; rw [hp]
  have hb := numB_lt (bopF op X Y) n.toNat
  rw [app_words n h1 h2 X Y hX hY, ← num_bop op ho ho' n.toNat X Y (mostW n) hX.1 hY.1 (by omega) (by omega)]
  exact (mod_of_bd n h1 h2 _ (by omega) (by omega)).symm
end
theorem pw_le (n Y : Int) (h2 : n ≤ 16) (h0 : 0 ≤ Y) (h : Y < n) : 1 ≤ pw Y ∧ pw Y ≤ 65536 := by
  by_cases hz : Y = 0
  · subst hz; decide
  · have := pw_bd Y (by omega) (by omega); omega
theorem mul_bd (X Z : Int) (h : 0 ≤ X ∧ X ≤ 65535) (h' : 0 ≤ Z ∧ Z ≤ 65536) : 0 ≤ X * Z ∧ X * Z ≤ 4294967296 := by
  refine ⟨Int.mul_nonneg h.1 h'.1, ?_⟩
  have h3 : X * Z ≤ 65536 * 65536 := Int.mul_le_mul (by omega) h'.2 h'.1 (by omega)
  omega
theorem rplain_ok (op n X Y : Int) (o1 : 1 ≤ op) (o2 : op ≤ 12) (h1 : 1 ≤ n) (h2 : n ≤ 16) (hX : 0 ≤ X ∧ X ≤ mostW n) (hY : 0 ≤ Y ∧ Y ≤ mostW n) (w : World) :
    Calls Try.prog 43 #[.int .i64 op, .int .i64 n, .int .i64 X, .int .i64 Y] w fun e w' => e = .returned (.int .i64 (appW op.toNat n X Y)) ∧ Below w.heap.size w w' := by
  have hm := mostW_bd n h1 h2
  have hp : pw n = mostW n + 1 := by unfold mostW; omega
  by_cases hb : 8 ≤ op ∧ op ≤ 10
  · obtain ⟨b1, b2⟩ := hb
    have E := Lib.hid (plain_bop n h1 h2 X Y hX hY op b1 b2)
    have HP := Lib.hid hp
    clear hp
    go_enter Try.func43, Try.ntmps43
    go_wp2_with (first | (go_at_call 35; refine (power_ok _ (by omega) (by omega) _).mono ?_; rintro e w' ⟨rfl, rfl⟩) | (go_at_call 61; refine (bitwise_ok _ _ _ _ b1 b2 h1 h2 (by omega) (by omega) (by omega) (by omega) _).mono ?_; rintro e w2 ⟨rfl, hB⟩))
    go_ret
    exact ⟨ret_int E.out, hB⟩
  · have h3 : op = 1 ∨ op = 2 ∨ op = 3 ∨ op = 4 ∨ op = 5 ∨ op = 6 ∨ op = 7 ∨ op = 11 ∨ op = 12 := by omega
    have hp1 : pw n ≤ 65536 := by omega
    have hp2 : pw n - 1 - X = mostW n - X ∧ 0 ≤ pw n - 1 - X := by omega
    have hp3 := hp2.2
    have hp4 : X ≤ pw n - 1 := by omega
    have hp5 : Y ≤ pw n - 1 := by omega
    have hp6 : 2 ≤ pw n := by omega
    clear hb hp hp2 o1 o2
    rcases h3 with rfl | rfl | rfl | rfl | rfl | rfl | rfl | rfl | rfl
    · have E := Lib.hid (plain1 n h1 h2 X Y hX hY)
      go_enter Try.func43, Try.ntmps43
      go_wp2_with (first | (go_at_call 35; refine (power_ok _ (by omega) (by omega) _).mono ?_; rintro e w' ⟨rfl, rfl⟩) | (go_at_call 38; refine (rcut_ok _ _ h1 h2 (by omega) (by omega) _).mono ?_; rintro e w' ⟨rfl, rfl⟩))
      go_ret
      exact ⟨ret_int E.out, Below.refl _ _⟩
    · have E := Lib.hid (plain2 n h1 h2 X Y hX hY)
      go_enter Try.func43, Try.ntmps43
      go_wp2_with (first | (go_at_call 35; refine (power_ok _ (by omega) (by omega) _).mono ?_; rintro e w' ⟨rfl, rfl⟩) | (go_at_call 38; refine (rcut_ok _ _ h1 h2 (by omega) (by omega) _).mono ?_; rintro e w' ⟨rfl, rfl⟩))
      go_ret
      exact ⟨ret_int E.out, Below.refl _ _⟩
    · have E := Lib.hid (plain3 n h1 h2 X Y hX hY)
      go_enter Try.func43, Try.ntmps43
      go_wp2_with (first | (go_at_call 35; refine (power_ok _ (by omega) (by omega) _).mono ?_; rintro e w' ⟨rfl, rfl⟩) | (go_at_call 38; refine (rcut_ok _ _ h1 h2 (by omega) (by omega) _).mono ?_; rintro e w' ⟨rfl, rfl⟩))
      go_ret
      exact ⟨ret_int E.out, Below.refl _ _⟩
    · have E := Lib.hid (plain4 n h1 h2 X Y hX hY)
      go_enter Try.func43, Try.ntmps43
      go_wp2_with (first | (go_at_call 35; refine (power_ok _ (by omega) (by omega) _).mono ?_; rintro e w' ⟨rfl, rfl⟩) | (go_at_call 38; refine (rcut_ok _ _ h1 h2 (by omega) (by omega) _).mono ?_; rintro e w' ⟨rfl, rfl⟩))
      go_ret
      exact ⟨ret_int E.out, Below.refl _ _⟩
    · have E := Lib.hid (plain5 n h1 h2 X Y hX hY)
      have hxy := mul_bd X Y (by omega) (by omega)
      go_enter Try.func43, Try.ntmps43
      go_wp2_with (first | (go_at_call 35; refine (power_ok _ (by omega) (by omega) _).mono ?_; rintro e w' ⟨rfl, rfl⟩) | (go_at_call 38; refine (rcut_ok _ _ h1 h2 (by omega) (by omega) _).mono ?_; rintro e w' ⟨rfl, rfl⟩))
      go_ret
      exact ⟨ret_int E.out, Below.refl _ _⟩
    · by_cases hz : Y = 0
      · have E := Lib.hid (plain6z n h1 h2 X Y hX hY hz)
        have z1 : (Y == 0) = true := beq_iff_eq.2 hz
        clear hz
        go_enter Try.func43, Try.ntmps43
        go_wp2_with (first | (go_at_call 35; refine (power_ok _ (by omega) (by omega) _).mono ?_; rintro e w' ⟨rfl, rfl⟩))
        go_ret
        exact ⟨ret_int E.out, Below.refl _ _⟩
      · have E := Lib.hid (plain6 n h1 h2 X Y hX hY hz)
        have z1 : (Y == 0) = false := beq_eq_false_iff_ne.2 hz
        have z2 : 1 ≤ Y := by omega
        have z3 : X / Y ≤ X := Int.ediv_le_self _ hX.1
        have z4 : 0 ≤ X / Y := Int.ediv_nonneg hX.1 hY.1
        clear hz
        go_enter Try.func43, Try.ntmps43
        go_wp2_with (first | (go_at_call 35; refine (power_ok _ (by omega) (by omega) _).mono ?_; rintro e w' ⟨rfl, rfl⟩))
        go_ret
        exact ⟨ret_int E.out, Below.refl _ _⟩
    · by_cases hz : Y = 0
      · have E := Lib.hid (plain7z n h1 h2 X Y hX hY hz)
        have z1 : (Y == 0) = true := beq_iff_eq.2 hz
        clear hz
        go_enter Try.func43, Try.ntmps43
        go_wp2_with (first | (go_at_call 35; refine (power_ok _ (by omega) (by omega) _).mono ?_; rintro e w' ⟨rfl, rfl⟩))
        go_ret
        exact ⟨ret_int E.out, Below.refl _ _⟩
      · have E := Lib.hid (plain7 n h1 h2 X Y hX hY hz)
        have z1 : (Y == 0) = false := beq_eq_false_iff_ne.2 hz
        have z2 : 1 ≤ Y := by omega
        have z3 : X / Y ≤ X := Int.ediv_le_self _ hX.1
        have z4 : 0 ≤ X / Y := Int.ediv_nonneg hX.1 hY.1
        have z5 := mul_bd Y (X / Y) (by omega) (by omega)
        clear hz
        go_enter Try.func43, Try.ntmps43
        go_wp2_with (first | (go_at_call 35; refine (power_ok _ (by omega) (by omega) _).mono ?_; rintro e w' ⟨rfl, rfl⟩))
        go_ret
        exact ⟨ret_int E.out, Below.refl _ _⟩
    · by_cases hz : n ≤ Y
      · have E := Lib.hid (plain11z n h1 h2 X Y hX hY hz)
        go_enter Try.func43, Try.ntmps43
        go_wp2_with (first | (go_at_call 35; refine (power_ok _ (by omega) (by omega) _).mono ?_; rintro e w' ⟨rfl, rfl⟩))
        go_ret
        exact ⟨ret_int E.out, Below.refl _ _⟩
      · have E := Lib.hid (plain11 n h1 h2 X Y hX hY (by omega))
        have hy := pw_le n Y h2 hY.1 (by omega)
        have hxy := mul_bd X (pw Y) (by omega) (by omega)
        go_enter Try.func43, Try.ntmps43
        go_wp2_with (first | (go_at_call 35; refine (power_ok _ (by omega) (by omega) _).mono ?_; rintro e w' ⟨rfl, rfl⟩) | (go_at_call 38; refine (rcut_ok _ _ h1 h2 (by omega) (by omega) _).mono ?_; rintro e w' ⟨rfl, rfl⟩))
        go_ret
        exact ⟨ret_int E.out, Below.refl _ _⟩
    · by_cases hz : n ≤ Y
      · have E := Lib.hid (plain12z n h1 h2 X Y hX hY hz)
        go_enter Try.func43, Try.ntmps43
        go_wp2_with (first | (go_at_call 35; refine (power_ok _ (by omega) (by omega) _).mono ?_; rintro e w' ⟨rfl, rfl⟩))
        go_ret
        exact ⟨ret_int E.out, Below.refl _ _⟩
      · have E := Lib.hid (plain12 n h1 h2 X Y hX hY (by omega))
        have hy := pw_le n Y h2 hY.1 (by omega)
        have z3 : X / pw Y ≤ X := Int.ediv_le_self _ hX.1
        have z4 : 0 ≤ X / pw Y := Int.ediv_nonneg hX.1 (by omega)
        go_enter Try.func43, Try.ntmps43
        go_wp2_with (first | (go_at_call 35; refine (power_ok _ (by omega) (by omega) _).mono ?_; rintro e w' ⟨rfl, rfl⟩))
        go_ret
        exact ⟨ret_int E.out, Below.refl _ _⟩
theorem rapply_badop (op n x y : Int) (h : op < 1 ∨ 16 < op) (w : World) : Calls Try.prog 33 #[.int .i64 op, .int .i64 n, .int .i64 x, .int .i64 y] w fun e w' => e = .returned (.tuple #[.int .i64 0, .int .i64 221]) ∧ w = w' := by
  rcases h with h | h
  · go_enter Try.func33, Try.ntmps33
    go_wp2_with fail
    go_ret2
    exact ⟨rfl, rfl⟩
  · have h' : ¬ op < 1 := by omega
    go_enter Try.func33, Try.ntmps33
    go_wp2_with fail
    go_ret2
    exact ⟨rfl, rfl⟩
theorem rapply_badwidth (op n x y : Int) (o1 : 1 ≤ op) (o2 : op ≤ 16) (h : n < 1 ∨ 16 < n) (h1 : -9223372036854775808 ≤ n) (h2 : n ≤ 9223372036854775807) (w : World) :
    Calls Try.prog 33 #[.int .i64 op, .int .i64 n, .int .i64 x, .int .i64 y] w fun e w' => e = .returned (.tuple #[.int .i64 0, .int .i64 220]) ∧ w = w' := by
  have H := Lib.hid h
  clear h
  go_enter Try.func33, Try.ntmps33
  go_wp2_with (go_at_call 31; refine (rwidth_no _ H.out h1 h2 _).mono ?_; rintro e w' ⟨rfl, rfl⟩)
  go_ret2
  exact ⟨rfl, rfl⟩
theorem rapply_ok (op n x y : Int) (o1 : 1 ≤ op) (o2 : op ≤ 16) (h1 : 1 ≤ n) (h2 : n ≤ 16) (hx : 0 ≤ x) (hx' : x ≤ 4294967295) (hy : 0 ≤ y) (hy' : y ≤ 4294967295) (w : World) :
    Calls Try.prog 33 #[.int .i64 op, .int .i64 n, .int .i64 x, .int .i64 y] w fun e w' => e = .returned (.tuple #[.int .i64 (appW op.toNat n x y), .int .i64 0]) ∧ Below w.heap.size w w' := by
  have cx := cutW_bd x n h1 h2
  have cy := cutW_bd y n h1 h2
  by_cases h : op ≤ 12
  · have E := Lib.hid (app_cut op.toNat n x y)
    go_enter Try.func33, Try.ntmps33
    go_wp2_with (first | (go_at_call 31; refine (rwidth_yes _ h1 h2 _).mono ?_; rintro e w' ⟨rfl, rfl⟩) | (go_at_call 38; refine (rcut_ok _ _ h1 h2 (by omega) (by omega) _).mono ?_; rintro e w' ⟨rfl, rfl⟩) | (go_at_call 43; refine (rplain_ok _ _ _ _ o1 h h1 h2 cx cy _).mono ?_; rintro e w2 ⟨rfl, hB⟩))
    go_ret2
    exact ⟨ret_tup E.out rfl, hB⟩
  · have h3 : op = 13 ∨ op = 14 ∨ op = 15 ∨ op = 16 := by omega
    clear h
    rcases h3 with rfl | rfl | rfl | rfl
    · have E : Hid ((if (cutW x n == cutW y n) = true then (1 : Int) else 0) = appW 13 n x y) := by
        show _ = _
        rw [← app_cut, app_eq n h1 h2]
        simp
      go_enter Try.func33, Try.ntmps33
      go_wp2_with (first | (go_at_call 31; refine (rwidth_yes _ h1 h2 _).mono ?_; rintro e w' ⟨rfl, rfl⟩) | (go_at_call 38; refine (rcut_ok _ _ h1 h2 (by omega) (by omega) _).mono ?_; rintro e w' ⟨rfl, rfl⟩) | (go_at_call 42; refine (rtruth_any _ _).mono ?_; rw [E.out]; rintro e w' ⟨rfl, rfl⟩))
      go_ret2
      exact ⟨rfl, Below.refl _ _⟩
    · have E : Hid ((if (cutW x n != cutW y n) = true then (1 : Int) else 0) = appW 14 n x y) := by
        show _ = _
        rw [← app_cut, app_ne n h1 h2]
        by_cases h : cutW x n = cutW y n <;> simp [h]
      go_enter Try.func33, Try.ntmps33
      go_wp2_with (first | (go_at_call 31; refine (rwidth_yes _ h1 h2 _).mono ?_; rintro e w' ⟨rfl, rfl⟩) | (go_at_call 38; refine (rcut_ok _ _ h1 h2 (by omega) (by omega) _).mono ?_; rintro e w' ⟨rfl, rfl⟩) | (go_at_call 42; refine (rtruth_any _ _).mono ?_; rw [E.out]; rintro e w' ⟨rfl, rfl⟩))
      go_ret2
      exact ⟨rfl, Below.refl _ _⟩
    · have E : Hid ((if decide (cutW x n < cutW y n) = true then (1 : Int) else 0) = appW 15 n x y) := by
        show _ = _
        rw [← app_cut, app_lt n h1 h2]
        simp
      go_enter Try.func33, Try.ntmps33
      go_wp2_with (first | (go_at_call 31; refine (rwidth_yes _ h1 h2 _).mono ?_; rintro e w' ⟨rfl, rfl⟩) | (go_at_call 38; refine (rcut_ok _ _ h1 h2 (by omega) (by omega) _).mono ?_; rintro e w' ⟨rfl, rfl⟩) | (go_at_call 42; refine (rtruth_any _ _).mono ?_; rw [E.out]; rintro e w' ⟨rfl, rfl⟩))
      go_ret2
      exact ⟨rfl, Below.refl _ _⟩
    · have E : Hid ((if decide (cutW x n ≤ cutW y n) = true then (1 : Int) else 0) = appW 16 n x y) := by
        show _ = _
        rw [← app_cut, app_le n h1 h2]
        simp
      go_enter Try.func33, Try.ntmps33
      go_wp2_with (first | (go_at_call 31; refine (rwidth_yes _ h1 h2 _).mono ?_; rintro e w' ⟨rfl, rfl⟩) | (go_at_call 38; refine (rcut_ok _ _ h1 h2 (by omega) (by omega) _).mono ?_; rintro e w' ⟨rfl, rfl⟩) | (go_at_call 42; refine (rtruth_any _ _).mono ?_; rw [E.out]; rintro e w' ⟨rfl, rfl⟩))
      go_ret2
      exact ⟨rfl, Below.refl _ _⟩
end Go.Proofs.Ytfgmcinegogdkaa
