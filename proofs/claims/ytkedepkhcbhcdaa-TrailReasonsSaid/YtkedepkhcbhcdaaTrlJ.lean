/- Trails: law 3 (reasons). -/
import Derived.Test.YtkedepkhcbhcdaaTrlI
namespace Go.Proofs.Ytkedepkhcbhcdaa
open Go Go.RowKit Go.Shelf
set_option linter.unusedVariables false
set_option linter.unusedSimpArgs false
set_option maxHeartbeats 4000000
def rT0 : Trl := { n := 8, its := [], st := [0, 0] }
def rT1 (x r : Int) : Trl := { n := 8, its := [⟨x, r, 1⟩], st := [0, 0] }
def rT2 (x r : Int) : Trl := { n := 8, its := [⟨x, r, 0⟩], st := [0] }
theorem of_pos (n : Int) (w : World) (h1 : 1 ≤ n) (h2 : n ≤ 8) : Calls Try.prog 11 #[.int .i64 n, .bool false] w fun e w' => e = .returned (.tuple #[.int .i64 n, .int .i64 0]) ∧ w = w' := by
  have e1 : ¬ n < 1 := by omega
  go_enter Try.func11, Try.ntmps11
  go_wp2
  go_ret2
  exact ⟨rfl, rfl⟩
theorem of_neg (n : Int) (w : World) (h1 : 1 ≤ n) (h2 : n ≤ 8) : Calls Try.prog 11 #[.int .i64 n, .bool true] w fun e w' => e = .returned (.tuple #[.int .i64 (-n), .int .i64 0]) ∧ w = w' := by
  have e1 : ¬ n < 1 := by omega
  go_enter Try.func11, Try.ntmps11
  go_wp2
  go_ret2
  exact ⟨rfl, rfl⟩
theorem sgn_ne (x : Int) : sgn x = 1 ∨ sgn x = -1 := by unfold sgn; split <;> simp
section
variable {n x y r : Int} (h1 : 1 ≤ n) (h2 : n ≤ 8) (hx : x = n ∨ x = -n) (hy : y = n ∨ y = -n) (r0 : 0 ≤ r) (r1 : r ≤ 1073741824)
include h1 h2 hx
theorem r_var : varL x = n := by
  have hr : rightL x = true := by simp [rightL]; omega
  rw [varL, hr]
  simp only [if_true]
  split <;> omega
theorem r_isV (D : Trl) (hD : D.n = 8) : isV D x = true := by
  simp [isV, hD]; omega
include r0 r1
theorem r_first (D : Trl) (hD : D.n = 8) (hi : D.its = []) : asgE D x r = 0 ∧ asgD D x r = { D with its := [⟨x, r, D.st.length - 1⟩] } := by
  have he : asgE D x r = 0 := by
    unfold asgE
    rw [if_neg (by rw [r_isV h1 h2 hx D hD]; decide), if_neg (by omega), hi]
    simp [row, pos]
  exact ⟨he, by rw [asgD, if_pos he, asg, hi]; rfl⟩
omit r0 r1
theorem r_row (D : Trl) (l : Nat) (hD : D.n = 8) (hi : D.its = [⟨x, r, l⟩]) : rowD D n = ((l : Int), r, 0, sgn x) := by
  unfold rowD
  rw [if_pos (by omega), hi]
  exact row_snoc [] ⟨x, r, l⟩ n rfl hx
theorem r_set (D : Trl) (l : Nat) (hD : D.n = 8) (hi : D.its = [⟨x, r, l⟩]) : isSet D n = true := by
  unfold isSet
  rw [r_row h1 h2 hx D l hD hi]
  rcases sgn_ne x with h | h <;> simp [h]
include hy
theorem r_taken (D : Trl) (l : Nat) (hD : D.n = 8) (hi : D.its = [⟨x, r, l⟩]) : asgE D y 1 = 41 ∧ asgD D y 1 = D := by
  have hr := r_row h1 h2 hx D l hD hi
  unfold rowD at hr
  rw [if_pos (by omega)] at hr
  have he : asgE D y 1 = 41 := by
    unfold asgE
    rw [if_neg (by rw [r_isV h1 h2 hy D hD]; decide), if_neg (by omega), r_var h1 h2 hy, hr]
    rcases sgn_ne x with h | h <;> simp [h]
  exact ⟨he, by rw [asgD, if_neg (by rw [he]; decide)]⟩
theorem r_val (D : Trl) (l : Nat) (hD : D.n = 8) (hi : D.its = [⟨x, r, l⟩]) : valD D y = sgn x * sgn y := by
  have hr := r_row h1 h2 hx D l hD hi
  unfold rowD at hr
  rw [if_pos (by omega)] at hr
  unfold valD
  rw [if_pos (r_isV h1 h2 hy D hD), show (if y < 0 then -y else y) = n by split <;> omega, hr]
end
set_option maxRecDepth 100000 in
theorem law_reasons_false_false (v a b : Int) (v0 : 0 ≤ v ∧ v ≤ 255) (a0 : 0 ≤ a ∧ a ≤ 4294967295) (b0 : 0 ≤ b ∧ b ≤ 4294967295) (w : World) :
    Calls Try.prog 3 #[.int .u8 v, .int .u32 a, .int .u32 b, .bool false, .bool false] w fun e w' => e = .returned (.bool true) ∧ Below w.heap.size w w' := by
  obtain ⟨n, hn⟩ : ∃ n, n = 1 + v % 8 := ⟨_, rfl⟩
  have n1 : 1 ≤ n := by omega
  have n2 : n ≤ 8 := by omega
  obtain ⟨ra, hra⟩ : ∃ r, r = a % 1073741824 := ⟨_, rfl⟩
  obtain ⟨rb, hrb⟩ : ∃ r, r = b % 1073741824 := ⟨_, rfl⟩
  have ra0 : 0 ≤ ra := by omega
  have ra1 : ra ≤ 1073741824 := by omega
  have rb0 : 0 ≤ rb := by omega
  have rb1 : rb ≤ 1073741824 := by omega
  have f1 := r_first (x := n) n1 n2 (.inl rfl) ra0 ra1 rT0 rfl rfl
  have f2 := r_taken (x := n) (y := n) (r := ra) n1 n2 (.inl rfl) (.inl rfl) (rT1 n ra) 1 rfl rfl
  have f3 := r_row (x := n) (r := ra) n1 n2 (.inl rfl) (rT1 n ra) 1 rfl rfl
  have f4 := r_set (x := n) (r := ra) n1 n2 (.inl rfl) (rT1 n ra) 1 rfl rfl
  have f5 := r_first (x := n) n1 n2 (.inl rfl) rb0 rb1 (newT 8) rfl rfl
  have f6 := r_row (x := n) (r := rb) n1 n2 (.inl rfl) (rT2 n rb) 0 rfl rfl
  have f7 := r_set (x := n) (r := rb) n1 n2 (.inl rfl) (rT2 n rb) 0 rfl rfl
  have f8 : valD (rT2 n rb) n = 1 := by rw [r_val (x := n) (y := n) (r := rb) n1 n2 (.inl rfl) (.inl rfl) (rT2 n rb) 0 rfl rfl]; unfold sgn; split <;> omega
  have f9 : valD (rT2 n rb) n = 1 := by rw [r_val (x := n) (y := n) (r := rb) n1 n2 (.inl rfl) (.inl rfl) (rT2 n rb) 0 rfl rfl]; unfold sgn; (repeat split) <;> omega
  have g1 : (rowD (newT 8) n).2.1 = 0 := by unfold rowD; rw [if_pos (by show 1 ≤ n ∧ n ≤ 8; omega)]; rfl
  have g2 : isSet (newT 8) n = false := by unfold isSet rowD; rw [if_pos (by show 1 ≤ n ∧ n ≤ 8; omega)]; rfl
  have e1 := congrArg (fun s : Sta => s.2.1) f3
  have e2 := congrArg (fun s : Sta => s.2.1) f6
  have e3 := congrArg (fun s : Sta => s.1) f6
  dsimp only at e1 e2 e3
  clear f3 f6
  replace f1 := Lib.hid f1
  replace f2 := Lib.hid f2
  replace f4 := Lib.hid f4
  replace f5 := Lib.hid f5
  replace f7 := Lib.hid f7
  replace f8 := Lib.hid f8
  replace f9 := Lib.hid f9
  replace g1 := Lib.hid g1
  replace g2 := Lib.hid g2
  replace e1 := Lib.hid e1
  replace e2 := Lib.hid e2
  replace e3 := Lib.hid e3
  have hv : v % 8 = n - 1 := by omega
  have hv2 : 1 + v % 8 = n := hn.symm
  have ha2 : a % 1073741824 = ra := hra.symm
  have hb2 : b % 1073741824 = rb := hrb.symm
  clear hn hra hrb hv
  have t0 := Lib.hid trivial
  have t1 := Lib.hid trivial
  have t2 := Lib.hid trivial
  have t3 := Lib.hid trivial
  have t4 := Lib.hid trivial
  have t5 := Lib.hid trivial
  have t6 := Lib.hid trivial
  have t7 := Lib.hid trivial
  have t8 := Lib.hid trivial
  have t9 := Lib.hid trivial
  have ta := Lib.hid trivial
  go_enter Try.func3, Try.ntmps3
  go_wp2_with (first
    | (go_at_call 10; refine (own_new (w := w) 8 (by omega) (Below.refl _ _)).mono ?_; rintro e W' ⟨d, rfl, hS⟩)
    | (go_at_call 11; clear t0; refine (of_pos n _ n1 n2).mono ?_; rintro e W' ⟨rfl, rfl⟩)
    | (go_at_call 11; clear t1; refine (of_pos n _ n1 n2).mono ?_; rintro e W' ⟨rfl, rfl⟩)
    | (go_at_call 12; refine (own_push (D' := rT0) hS (e := 0) (by rfl) (by rfl)).mono ?_; rintro e W' ⟨rfl, hS2⟩; clear hS; have hS := hS2; clear hS2)
    | (go_at_call 13; clear t2; refine (own_assign (D' := rT1 n ra) hS n ra (e := 0) f1.out.1 f1.out.2).mono ?_; rintro e W' ⟨rfl, hS2⟩; clear hS; have hS := hS2; clear hS2)
    | (go_at_call 14; clear t3; refine (own_reason hS n (x := ra) (b := true) (by omega) e1.out f4.out).mono ?_; rintro e W' ⟨rfl, hS2⟩; clear hS; have hS := hS2; clear hS2)
    | (go_at_call 13; clear t4; refine (own_assign (D' := rT1 n ra) hS n 1 (e := 41) f2.out.1 f2.out.2).mono ?_; rintro e W' ⟨rfl, hS2⟩; clear hS; have hS := hS2; clear hS2)
    | (go_at_call 15; refine (own_back (D' := newT 8) hS 0 (e := 0) (by rfl) (by rfl)).mono ?_; rintro e W' ⟨rfl, hS2⟩; clear hS; have hS := hS2; clear hS2)
    | (go_at_call 14; clear t5; refine (own_reason hS n (x := 0) (b := false) (by omega) g1.out g2.out).mono ?_; rintro e W' ⟨rfl, hS2⟩; clear hS; have hS := hS2; clear hS2)
    | (go_at_call 13; clear t6; refine (own_assign (D' := rT2 n rb) hS n rb (e := 0) f5.out.1 f5.out.2).mono ?_; rintro e W' ⟨rfl, hS2⟩; clear hS; have hS := hS2; clear hS2)
    | (go_at_call 14; clear t7; refine (own_reason hS n (x := rb) (b := true) (by omega) e2.out f7.out).mono ?_; rintro e W' ⟨rfl, hS2⟩; clear hS; have hS := hS2; clear hS2)
    | (go_at_call 16; refine (own_level hS n (x := 0) (b := true) (by omega) e3.out f7.out).mono ?_; rintro e W' ⟨rfl, hS2⟩; clear hS; have hS := hS2; clear hS2)
    | (go_at_call 17; clear t8; refine (own_value hS n (x := 1) f8.out).mono ?_; rintro e W' ⟨rfl, hS2⟩; clear hS; have hS := hS2; clear hS2)
    | (go_at_call 17; clear t9; refine (own_value hS n (x := 1) f9.out).mono ?_; rintro e W' ⟨rfl, hS2⟩; clear hS; have hS := hS2; clear hS2)
    | (go_at_call 18; refine (awake_ok _).mono ?_; rintro e W' ⟨rfl, hB⟩))
  go_ret
  obtain ⟨_, _, hB0⟩ := hS
  exact ⟨rfl, below_and hB0 hB⟩
set_option maxRecDepth 100000 in
theorem law_reasons_false_true (v a b : Int) (v0 : 0 ≤ v ∧ v ≤ 255) (a0 : 0 ≤ a ∧ a ≤ 4294967295) (b0 : 0 ≤ b ∧ b ≤ 4294967295) (w : World) :
    Calls Try.prog 3 #[.int .u8 v, .int .u32 a, .int .u32 b, .bool false, .bool true] w fun e w' => e = .returned (.bool true) ∧ Below w.heap.size w w' := by
  obtain ⟨n, hn⟩ : ∃ n, n = 1 + v % 8 := ⟨_, rfl⟩
  have n1 : 1 ≤ n := by omega
  have n2 : n ≤ 8 := by omega
  obtain ⟨ra, hra⟩ : ∃ r, r = a % 1073741824 := ⟨_, rfl⟩
  obtain ⟨rb, hrb⟩ : ∃ r, r = b % 1073741824 := ⟨_, rfl⟩
  have ra0 : 0 ≤ ra := by omega
  have ra1 : ra ≤ 1073741824 := by omega
  have rb0 : 0 ≤ rb := by omega
  have rb1 : rb ≤ 1073741824 := by omega
  have f1 := r_first (x := n) n1 n2 (.inl rfl) ra0 ra1 rT0 rfl rfl
  have f2 := r_taken (x := n) (y := (-n)) (r := ra) n1 n2 (.inl rfl) (.inr rfl) (rT1 n ra) 1 rfl rfl
  have f3 := r_row (x := n) (r := ra) n1 n2 (.inl rfl) (rT1 n ra) 1 rfl rfl
  have f4 := r_set (x := n) (r := ra) n1 n2 (.inl rfl) (rT1 n ra) 1 rfl rfl
  have f5 := r_first (x := (-n)) n1 n2 (.inr rfl) rb0 rb1 (newT 8) rfl rfl
  have f6 := r_row (x := (-n)) (r := rb) n1 n2 (.inr rfl) (rT2 (-n) rb) 0 rfl rfl
  have f7 := r_set (x := (-n)) (r := rb) n1 n2 (.inr rfl) (rT2 (-n) rb) 0 rfl rfl
  have f8 : valD (rT2 (-n) rb) (-n) = 1 := by rw [r_val (x := (-n)) (y := (-n)) (r := rb) n1 n2 (.inr rfl) (.inr rfl) (rT2 (-n) rb) 0 rfl rfl]; unfold sgn; split <;> omega
  have f9 : valD (rT2 (-n) rb) n = (-1) := by rw [r_val (x := (-n)) (y := n) (r := rb) n1 n2 (.inr rfl) (.inl rfl) (rT2 (-n) rb) 0 rfl rfl]; unfold sgn; (repeat split) <;> omega
  have g1 : (rowD (newT 8) n).2.1 = 0 := by unfold rowD; rw [if_pos (by show 1 ≤ n ∧ n ≤ 8; omega)]; rfl
  have g2 : isSet (newT 8) n = false := by unfold isSet rowD; rw [if_pos (by show 1 ≤ n ∧ n ≤ 8; omega)]; rfl
  have e1 := congrArg (fun s : Sta => s.2.1) f3
  have e2 := congrArg (fun s : Sta => s.2.1) f6
  have e3 := congrArg (fun s : Sta => s.1) f6
  dsimp only at e1 e2 e3
  clear f3 f6
  replace f1 := Lib.hid f1
  replace f2 := Lib.hid f2
  replace f4 := Lib.hid f4
  replace f5 := Lib.hid f5
  replace f7 := Lib.hid f7
  replace f8 := Lib.hid f8
  replace f9 := Lib.hid f9
  replace g1 := Lib.hid g1
  replace g2 := Lib.hid g2
  replace e1 := Lib.hid e1
  replace e2 := Lib.hid e2
  replace e3 := Lib.hid e3
  have hv : v % 8 = n - 1 := by omega
  have hv2 : 1 + v % 8 = n := hn.symm
  have ha2 : a % 1073741824 = ra := hra.symm
  have hb2 : b % 1073741824 = rb := hrb.symm
  clear hn hra hrb hv
  have t0 := Lib.hid trivial
  have t1 := Lib.hid trivial
  have t2 := Lib.hid trivial
  have t3 := Lib.hid trivial
  have t4 := Lib.hid trivial
  have t5 := Lib.hid trivial
  have t6 := Lib.hid trivial
  have t7 := Lib.hid trivial
  have t8 := Lib.hid trivial
  have t9 := Lib.hid trivial
  have ta := Lib.hid trivial
  go_enter Try.func3, Try.ntmps3
  go_wp2_with (first
    | (go_at_call 10; refine (own_new (w := w) 8 (by omega) (Below.refl _ _)).mono ?_; rintro e W' ⟨d, rfl, hS⟩)
    | (go_at_call 11; clear t0; refine (of_pos n _ n1 n2).mono ?_; rintro e W' ⟨rfl, rfl⟩)
    | (go_at_call 11; clear t1; refine (of_neg n _ n1 n2).mono ?_; rintro e W' ⟨rfl, rfl⟩)
    | (go_at_call 12; refine (own_push (D' := rT0) hS (e := 0) (by rfl) (by rfl)).mono ?_; rintro e W' ⟨rfl, hS2⟩; clear hS; have hS := hS2; clear hS2)
    | (go_at_call 13; clear t2; refine (own_assign (D' := rT1 n ra) hS n ra (e := 0) f1.out.1 f1.out.2).mono ?_; rintro e W' ⟨rfl, hS2⟩; clear hS; have hS := hS2; clear hS2)
    | (go_at_call 14; clear t3; refine (own_reason hS n (x := ra) (b := true) (by omega) e1.out f4.out).mono ?_; rintro e W' ⟨rfl, hS2⟩; clear hS; have hS := hS2; clear hS2)
    | (go_at_call 13; clear t4; refine (own_assign (D' := rT1 n ra) hS (-n) 1 (e := 41) f2.out.1 f2.out.2).mono ?_; rintro e W' ⟨rfl, hS2⟩; clear hS; have hS := hS2; clear hS2)
    | (go_at_call 15; refine (own_back (D' := newT 8) hS 0 (e := 0) (by rfl) (by rfl)).mono ?_; rintro e W' ⟨rfl, hS2⟩; clear hS; have hS := hS2; clear hS2)
    | (go_at_call 14; clear t5; refine (own_reason hS n (x := 0) (b := false) (by omega) g1.out g2.out).mono ?_; rintro e W' ⟨rfl, hS2⟩; clear hS; have hS := hS2; clear hS2)
    | (go_at_call 13; clear t6; refine (own_assign (D' := rT2 (-n) rb) hS (-n) rb (e := 0) f5.out.1 f5.out.2).mono ?_; rintro e W' ⟨rfl, hS2⟩; clear hS; have hS := hS2; clear hS2)
    | (go_at_call 14; clear t7; refine (own_reason hS n (x := rb) (b := true) (by omega) e2.out f7.out).mono ?_; rintro e W' ⟨rfl, hS2⟩; clear hS; have hS := hS2; clear hS2)
    | (go_at_call 16; refine (own_level hS n (x := 0) (b := true) (by omega) e3.out f7.out).mono ?_; rintro e W' ⟨rfl, hS2⟩; clear hS; have hS := hS2; clear hS2)
    | (go_at_call 17; clear t8; refine (own_value hS (-n) (x := 1) f8.out).mono ?_; rintro e W' ⟨rfl, hS2⟩; clear hS; have hS := hS2; clear hS2)
    | (go_at_call 17; clear t9; refine (own_value hS n (x := (-1)) f9.out).mono ?_; rintro e W' ⟨rfl, hS2⟩; clear hS; have hS := hS2; clear hS2)
    | (go_at_call 18; refine (awake_ok _).mono ?_; rintro e W' ⟨rfl, hB⟩))
  go_ret
  obtain ⟨_, _, hB0⟩ := hS
  exact ⟨rfl, below_and hB0 hB⟩
set_option maxRecDepth 100000 in
theorem law_reasons_true_false (v a b : Int) (v0 : 0 ≤ v ∧ v ≤ 255) (a0 : 0 ≤ a ∧ a ≤ 4294967295) (b0 : 0 ≤ b ∧ b ≤ 4294967295) (w : World) :
    Calls Try.prog 3 #[.int .u8 v, .int .u32 a, .int .u32 b, .bool true, .bool false] w fun e w' => e = .returned (.bool true) ∧ Below w.heap.size w w' := by
  obtain ⟨n, hn⟩ : ∃ n, n = 1 + v % 8 := ⟨_, rfl⟩
  have n1 : 1 ≤ n := by omega
  have n2 : n ≤ 8 := by omega
  obtain ⟨ra, hra⟩ : ∃ r, r = a % 1073741824 := ⟨_, rfl⟩
  obtain ⟨rb, hrb⟩ : ∃ r, r = b % 1073741824 := ⟨_, rfl⟩
  have ra0 : 0 ≤ ra := by omega
  have ra1 : ra ≤ 1073741824 := by omega
  have rb0 : 0 ≤ rb := by omega
  have rb1 : rb ≤ 1073741824 := by omega
  have f1 := r_first (x := (-n)) n1 n2 (.inr rfl) ra0 ra1 rT0 rfl rfl
  have f2 := r_taken (x := (-n)) (y := n) (r := ra) n1 n2 (.inr rfl) (.inl rfl) (rT1 (-n) ra) 1 rfl rfl
  have f3 := r_row (x := (-n)) (r := ra) n1 n2 (.inr rfl) (rT1 (-n) ra) 1 rfl rfl
  have f4 := r_set (x := (-n)) (r := ra) n1 n2 (.inr rfl) (rT1 (-n) ra) 1 rfl rfl
  have f5 := r_first (x := n) n1 n2 (.inl rfl) rb0 rb1 (newT 8) rfl rfl
  have f6 := r_row (x := n) (r := rb) n1 n2 (.inl rfl) (rT2 n rb) 0 rfl rfl
  have f7 := r_set (x := n) (r := rb) n1 n2 (.inl rfl) (rT2 n rb) 0 rfl rfl
  have f8 : valD (rT2 n rb) n = 1 := by rw [r_val (x := n) (y := n) (r := rb) n1 n2 (.inl rfl) (.inl rfl) (rT2 n rb) 0 rfl rfl]; unfold sgn; split <;> omega
  have f9 : valD (rT2 n rb) (-n) = (-1) := by rw [r_val (x := n) (y := (-n)) (r := rb) n1 n2 (.inl rfl) (.inr rfl) (rT2 n rb) 0 rfl rfl]; unfold sgn; (repeat split) <;> omega
  have g1 : (rowD (newT 8) n).2.1 = 0 := by unfold rowD; rw [if_pos (by show 1 ≤ n ∧ n ≤ 8; omega)]; rfl
  have g2 : isSet (newT 8) n = false := by unfold isSet rowD; rw [if_pos (by show 1 ≤ n ∧ n ≤ 8; omega)]; rfl
  have e1 := congrArg (fun s : Sta => s.2.1) f3
  have e2 := congrArg (fun s : Sta => s.2.1) f6
  have e3 := congrArg (fun s : Sta => s.1) f6
  dsimp only at e1 e2 e3
  clear f3 f6
  replace f1 := Lib.hid f1
  replace f2 := Lib.hid f2
  replace f4 := Lib.hid f4
  replace f5 := Lib.hid f5
  replace f7 := Lib.hid f7
  replace f8 := Lib.hid f8
  replace f9 := Lib.hid f9
  replace g1 := Lib.hid g1
  replace g2 := Lib.hid g2
  replace e1 := Lib.hid e1
  replace e2 := Lib.hid e2
  replace e3 := Lib.hid e3
  have hv : v % 8 = n - 1 := by omega
  have hv2 : 1 + v % 8 = n := hn.symm
  have ha2 : a % 1073741824 = ra := hra.symm
  have hb2 : b % 1073741824 = rb := hrb.symm
  clear hn hra hrb hv
  have t0 := Lib.hid trivial
  have t1 := Lib.hid trivial
  have t2 := Lib.hid trivial
  have t3 := Lib.hid trivial
  have t4 := Lib.hid trivial
  have t5 := Lib.hid trivial
  have t6 := Lib.hid trivial
  have t7 := Lib.hid trivial
  have t8 := Lib.hid trivial
  have t9 := Lib.hid trivial
  have ta := Lib.hid trivial
  go_enter Try.func3, Try.ntmps3
  go_wp2_with (first
    | (go_at_call 10; refine (own_new (w := w) 8 (by omega) (Below.refl _ _)).mono ?_; rintro e W' ⟨d, rfl, hS⟩)
    | (go_at_call 11; clear t0; refine (of_neg n _ n1 n2).mono ?_; rintro e W' ⟨rfl, rfl⟩)
    | (go_at_call 11; clear t1; refine (of_pos n _ n1 n2).mono ?_; rintro e W' ⟨rfl, rfl⟩)
    | (go_at_call 12; refine (own_push (D' := rT0) hS (e := 0) (by rfl) (by rfl)).mono ?_; rintro e W' ⟨rfl, hS2⟩; clear hS; have hS := hS2; clear hS2)
    | (go_at_call 13; clear t2; refine (own_assign (D' := rT1 (-n) ra) hS (-n) ra (e := 0) f1.out.1 f1.out.2).mono ?_; rintro e W' ⟨rfl, hS2⟩; clear hS; have hS := hS2; clear hS2)
    | (go_at_call 14; clear t3; refine (own_reason hS n (x := ra) (b := true) (by omega) e1.out f4.out).mono ?_; rintro e W' ⟨rfl, hS2⟩; clear hS; have hS := hS2; clear hS2)
    | (go_at_call 13; clear t4; refine (own_assign (D' := rT1 (-n) ra) hS n 1 (e := 41) f2.out.1 f2.out.2).mono ?_; rintro e W' ⟨rfl, hS2⟩; clear hS; have hS := hS2; clear hS2)
    | (go_at_call 15; refine (own_back (D' := newT 8) hS 0 (e := 0) (by rfl) (by rfl)).mono ?_; rintro e W' ⟨rfl, hS2⟩; clear hS; have hS := hS2; clear hS2)
    | (go_at_call 14; clear t5; refine (own_reason hS n (x := 0) (b := false) (by omega) g1.out g2.out).mono ?_; rintro e W' ⟨rfl, hS2⟩; clear hS; have hS := hS2; clear hS2)
    | (go_at_call 13; clear t6; refine (own_assign (D' := rT2 n rb) hS n rb (e := 0) f5.out.1 f5.out.2).mono ?_; rintro e W' ⟨rfl, hS2⟩; clear hS; have hS := hS2; clear hS2)
    | (go_at_call 14; clear t7; refine (own_reason hS n (x := rb) (b := true) (by omega) e2.out f7.out).mono ?_; rintro e W' ⟨rfl, hS2⟩; clear hS; have hS := hS2; clear hS2)
    | (go_at_call 16; refine (own_level hS n (x := 0) (b := true) (by omega) e3.out f7.out).mono ?_; rintro e W' ⟨rfl, hS2⟩; clear hS; have hS := hS2; clear hS2)
    | (go_at_call 17; clear t8; refine (own_value hS n (x := 1) f8.out).mono ?_; rintro e W' ⟨rfl, hS2⟩; clear hS; have hS := hS2; clear hS2)
    | (go_at_call 17; clear t9; refine (own_value hS (-n) (x := (-1)) f9.out).mono ?_; rintro e W' ⟨rfl, hS2⟩; clear hS; have hS := hS2; clear hS2)
    | (go_at_call 18; refine (awake_ok _).mono ?_; rintro e W' ⟨rfl, hB⟩))
  go_ret
  obtain ⟨_, _, hB0⟩ := hS
  exact ⟨rfl, below_and hB0 hB⟩
set_option maxRecDepth 100000 in
theorem law_reasons_true_true (v a b : Int) (v0 : 0 ≤ v ∧ v ≤ 255) (a0 : 0 ≤ a ∧ a ≤ 4294967295) (b0 : 0 ≤ b ∧ b ≤ 4294967295) (w : World) :
    Calls Try.prog 3 #[.int .u8 v, .int .u32 a, .int .u32 b, .bool true, .bool true] w fun e w' => e = .returned (.bool true) ∧ Below w.heap.size w w' := by
  obtain ⟨n, hn⟩ : ∃ n, n = 1 + v % 8 := ⟨_, rfl⟩
  have n1 : 1 ≤ n := by omega
  have n2 : n ≤ 8 := by omega
  obtain ⟨ra, hra⟩ : ∃ r, r = a % 1073741824 := ⟨_, rfl⟩
  obtain ⟨rb, hrb⟩ : ∃ r, r = b % 1073741824 := ⟨_, rfl⟩
  have ra0 : 0 ≤ ra := by omega
  have ra1 : ra ≤ 1073741824 := by omega
  have rb0 : 0 ≤ rb := by omega
  have rb1 : rb ≤ 1073741824 := by omega
  have f1 := r_first (x := (-n)) n1 n2 (.inr rfl) ra0 ra1 rT0 rfl rfl
  have f2 := r_taken (x := (-n)) (y := (-n)) (r := ra) n1 n2 (.inr rfl) (.inr rfl) (rT1 (-n) ra) 1 rfl rfl
  have f3 := r_row (x := (-n)) (r := ra) n1 n2 (.inr rfl) (rT1 (-n) ra) 1 rfl rfl
  have f4 := r_set (x := (-n)) (r := ra) n1 n2 (.inr rfl) (rT1 (-n) ra) 1 rfl rfl
  have f5 := r_first (x := (-n)) n1 n2 (.inr rfl) rb0 rb1 (newT 8) rfl rfl
  have f6 := r_row (x := (-n)) (r := rb) n1 n2 (.inr rfl) (rT2 (-n) rb) 0 rfl rfl
  have f7 := r_set (x := (-n)) (r := rb) n1 n2 (.inr rfl) (rT2 (-n) rb) 0 rfl rfl
  have f8 : valD (rT2 (-n) rb) (-n) = 1 := by rw [r_val (x := (-n)) (y := (-n)) (r := rb) n1 n2 (.inr rfl) (.inr rfl) (rT2 (-n) rb) 0 rfl rfl]; unfold sgn; split <;> omega
  have f9 : valD (rT2 (-n) rb) (-n) = 1 := by rw [r_val (x := (-n)) (y := (-n)) (r := rb) n1 n2 (.inr rfl) (.inr rfl) (rT2 (-n) rb) 0 rfl rfl]; unfold sgn; (repeat split) <;> omega
  have g1 : (rowD (newT 8) n).2.1 = 0 := by unfold rowD; rw [if_pos (by show 1 ≤ n ∧ n ≤ 8; omega)]; rfl
  have g2 : isSet (newT 8) n = false := by unfold isSet rowD; rw [if_pos (by show 1 ≤ n ∧ n ≤ 8; omega)]; rfl
  have e1 := congrArg (fun s : Sta => s.2.1) f3
  have e2 := congrArg (fun s : Sta => s.2.1) f6
  have e3 := congrArg (fun s : Sta => s.1) f6
  dsimp only at e1 e2 e3
  clear f3 f6
  replace f1 := Lib.hid f1
  replace f2 := Lib.hid f2
  replace f4 := Lib.hid f4
  replace f5 := Lib.hid f5
  replace f7 := Lib.hid f7
  replace f8 := Lib.hid f8
  replace f9 := Lib.hid f9
  replace g1 := Lib.hid g1
  replace g2 := Lib.hid g2
  replace e1 := Lib.hid e1
  replace e2 := Lib.hid e2
  replace e3 := Lib.hid e3
  have hv : v % 8 = n - 1 := by omega
  have hv2 : 1 + v % 8 = n := hn.symm
  have ha2 : a % 1073741824 = ra := hra.symm
  have hb2 : b % 1073741824 = rb := hrb.symm
  clear hn hra hrb hv
  have t0 := Lib.hid trivial
  have t1 := Lib.hid trivial
  have t2 := Lib.hid trivial
  have t3 := Lib.hid trivial
  have t4 := Lib.hid trivial
  have t5 := Lib.hid trivial
  have t6 := Lib.hid trivial
  have t7 := Lib.hid trivial
  have t8 := Lib.hid trivial
  have t9 := Lib.hid trivial
  have ta := Lib.hid trivial
  go_enter Try.func3, Try.ntmps3
  go_wp2_with (first
    | (go_at_call 10; refine (own_new (w := w) 8 (by omega) (Below.refl _ _)).mono ?_; rintro e W' ⟨d, rfl, hS⟩)
    | (go_at_call 11; clear t0; refine (of_neg n _ n1 n2).mono ?_; rintro e W' ⟨rfl, rfl⟩)
    | (go_at_call 11; clear t1; refine (of_neg n _ n1 n2).mono ?_; rintro e W' ⟨rfl, rfl⟩)
    | (go_at_call 12; refine (own_push (D' := rT0) hS (e := 0) (by rfl) (by rfl)).mono ?_; rintro e W' ⟨rfl, hS2⟩; clear hS; have hS := hS2; clear hS2)
    | (go_at_call 13; clear t2; refine (own_assign (D' := rT1 (-n) ra) hS (-n) ra (e := 0) f1.out.1 f1.out.2).mono ?_; rintro e W' ⟨rfl, hS2⟩; clear hS; have hS := hS2; clear hS2)
    | (go_at_call 14; clear t3; refine (own_reason hS n (x := ra) (b := true) (by omega) e1.out f4.out).mono ?_; rintro e W' ⟨rfl, hS2⟩; clear hS; have hS := hS2; clear hS2)
    | (go_at_call 13; clear t4; refine (own_assign (D' := rT1 (-n) ra) hS (-n) 1 (e := 41) f2.out.1 f2.out.2).mono ?_; rintro e W' ⟨rfl, hS2⟩; clear hS; have hS := hS2; clear hS2)
    | (go_at_call 15; refine (own_back (D' := newT 8) hS 0 (e := 0) (by rfl) (by rfl)).mono ?_; rintro e W' ⟨rfl, hS2⟩; clear hS; have hS := hS2; clear hS2)
    | (go_at_call 14; clear t5; refine (own_reason hS n (x := 0) (b := false) (by omega) g1.out g2.out).mono ?_; rintro e W' ⟨rfl, hS2⟩; clear hS; have hS := hS2; clear hS2)
    | (go_at_call 13; clear t6; refine (own_assign (D' := rT2 (-n) rb) hS (-n) rb (e := 0) f5.out.1 f5.out.2).mono ?_; rintro e W' ⟨rfl, hS2⟩; clear hS; have hS := hS2; clear hS2)
    | (go_at_call 14; clear t7; refine (own_reason hS n (x := rb) (b := true) (by omega) e2.out f7.out).mono ?_; rintro e W' ⟨rfl, hS2⟩; clear hS; have hS := hS2; clear hS2)
    | (go_at_call 16; refine (own_level hS n (x := 0) (b := true) (by omega) e3.out f7.out).mono ?_; rintro e W' ⟨rfl, hS2⟩; clear hS; have hS := hS2; clear hS2)
    | (go_at_call 17; clear t8; refine (own_value hS (-n) (x := 1) f8.out).mono ?_; rintro e W' ⟨rfl, hS2⟩; clear hS; have hS := hS2; clear hS2)
    | (go_at_call 17; clear t9; refine (own_value hS (-n) (x := 1) f9.out).mono ?_; rintro e W' ⟨rfl, hS2⟩; clear hS; have hS := hS2; clear hS2)
    | (go_at_call 18; refine (awake_ok _).mono ?_; rintro e W' ⟨rfl, hB⟩))
  go_ret
  obtain ⟨_, _, hB0⟩ := hS
  exact ⟨rfl, below_and hB0 hB⟩
theorem law_reasons (v a b : Int) (p q : Bool) (v0 : 0 ≤ v ∧ v ≤ 255) (a0 : 0 ≤ a ∧ a ≤ 4294967295) (b0 : 0 ≤ b ∧ b ≤ 4294967295) (w : World) :
    Calls Try.prog 3 #[.int .u8 v, .int .u32 a, .int .u32 b, .bool p, .bool q] w fun e w' => e = .returned (.bool true) ∧ Below w.heap.size w w' := by
  cases p <;> cases q
  · exact law_reasons_false_false v a b v0 a0 b0 w
  · exact law_reasons_false_true v a b v0 a0 b0 w
  · exact law_reasons_true_false v a b v0 a0 b0 w
  · exact law_reasons_true_true v a b v0 a0 b0 w
end Go.Proofs.Ytkedepkhcbhcdaa
