/- Trails: law 5 (wrong). -/
import Derived.Test.YtkedepkhcbhcdaaTrlN
import Derived.Test.YtkedepkhcbhcdaaTrlO
namespace Go.Proofs.Ytkedepkhcbhcdaa
open Go Go.RowKit Go.Shelf
set_option linter.unusedVariables false
set_option linter.unusedSimpArgs false
set_option maxHeartbeats 4000000
/-- A new row beside the others. -/
theorem Run.fresh {w W W' : World} {rs : List Row} {d : Nat} {D : Trl} (h : Run w rs d D W) (hb : Below W.heap.size W W') {r : Row} (hr : W'.ownsRow W.heap.size r.e 1 r.v r.l.length (litV r.l)) : Run w (r :: rs) d D W' := by
  obtain ⟨fp, h1, h2, h3⟩ := h
  refine ⟨fp, h1.new hb, below_and h2 hb, fun q hq => ?_⟩
  rcases List.mem_cons.1 hq with rfl | hq
  · refine ⟨own_base hr h2.size, fun k hk hm => ?_⟩
    have e1 := (hr.lt k hk).1
    have e2 := (h1.ge k hm).2
    omega
  · exact ⟨row_new (h3 q hq).1 hb, (h3 q hq).2⟩
theorem row_cell {w : World} {base g n c k : Nat} {e : TypeId} {l : List Int} (h : w.ownsRow base e 1 (.slice (some ⟨g, 0, none⟩) n c) n (litV l)) (hk : k < n) : ∃ x, l[k]? = some x ∧ w.cell? ⟨g, k, none⟩ = some (.int .i64 x) := by
  have h1 := h.cellAt (g := g) k (by omega)
  have hl : l.length = n := by have := h.1; simpa [litV] using this
  have hx : l[k]? = some l[k] := List.getElem?_eq_getElem (by omega)
  exact ⟨_, hx, by rw [h1, litV, List.getElem?_map, hx]; rfl⟩
theorem Run.reads {w W : World} {rs : List Row} {d : Nat} {D : Trl} {A : Option Addr} {n c : Nat} (h : Run w rs d D W) {r : Row} (hr : r ∈ rs) (hl : r.l.length = n) (hv : r.v = .slice A n c := by rfl) : Reads W W.heap.size 1 A n (litV r.l) := by
  have := h.row hr
  rw [hl, hv] at this
  exact Reads.of_own this
theorem asg_bad {D : Trl} (h8 : D.n = 8) {x : Int} (hx : x = 0 ∨ x ≤ -9 ∨ 9 ≤ x) (r : Int) : asgE D x r = 40 ∧ asgD D x r = D ∧ valD D x = 0 := by
  have hv : isV D x = false := by
    rw [← Bool.not_eq_true]
    intro hc
    simp [isV, h8] at hc
    omega
  have he : asgE D x r = 40 := if_pos hv
  exact ⟨he, if_neg (by rw [he]; decide), by unfold valD; rw [hv]; rfl⟩
theorem asg_rsn {D : Trl} (h8 : D.n = 8) {x : Int} (hx : x ≠ 0 ∧ -8 ≤ x ∧ x ≤ 8) {r : Int} (hr : r < 0 ∨ 1073741824 < r) : asgE D x r = 2 ∧ asgD D x r = D := by
  have hv : isV D x = true := by simp [isV, h8]; omega
  have he : asgE D x r = 2 := by
    unfold asgE
    rw [if_neg (by rw [hv]; decide), if_pos hr]
  exact ⟨he, if_neg (by rw [he]; decide)⟩
theorem bck_bad {D : Trl} {k : Int} (hk : k < 0 ∨ (D.st.length : Int) ≤ k) : bckE D k = 42 ∧ bckD D k = D := ⟨if_neg (by omega), if_neg (by omega)⟩
theorem at_bad {D : Trl} {k : Int} (hk : (D.its.length : Int) ≤ k) : atD D k = 0 ∧ atE D k = 2 := by
  refine ⟨?_, if_neg (by omega)⟩
  unfold atD
  rw [if_pos (by omega), List.getElem?_eq_none (by rw [lits_len]; omega)]
  rfl
theorem start_bad {D : Trl} {k : Int} (hk : (D.st.length : Int) ≤ k) : startD D k = 0 ∧ startE D k = 42 := by
  refine ⟨?_, if_neg (by omega)⟩
  unfold startD
  rw [if_pos (by omega), List.getElem?_eq_none (by simp [sts]; omega)]
  rfl
/-- The slice of the three variables that there are not. -/
def BadAt (w0 : World) (s l i : Value) (w : World) : Prop := ∃ S b1 b2, s = .slice (some ⟨S, 0, none⟩) 3 3 ∧ l = .int .i64 3 ∧ i = .int .i64 0 ∧ w.ownsRow w0.heap.size 3 1 (.slice (some ⟨S, 0, none⟩) 3 3) 3 (litV [0, b1, b2]) ∧ Below w0.heap.size w0 w ∧ b1 ≤ -9 ∧ 9 ≤ b2
theorem bad_mk {w0 : World} {b1 b2 : Int} (h1 : b1 ≤ -9) (h2 : 9 ≤ b2) : BadAt w0 (.slice (some ⟨w0.heap.size, 0, none⟩) 3 3) (.int .i64 3) (.int .i64 0) (w0.alloc (.cells #[.int .i64 0, .int .i64 b1, .int .i64 b2] 3)) :=
  ⟨_, b1, b2, rfl, rfl, rfl, own_all (Blk.new _ _ _) (Nat.le_refl _) rfl rfl (by omega), (Below.refl _ _).alloc (Nat.le_refl _) _, h1, h2⟩
set_option maxRecDepth 100000 in
theorem law_wrong (A : Option Addr) (n c B : Nat) (l : List Int) (w : World) (hrd : Reads w B 1 A n (l.map (Value.int .u8))) (hB : B ≤ w.heap.size) (hm : n ≤ 9223372036854775807) (hc : n ≤ c) (hl : ∀ x ∈ l, 0 ≤ x ∧ x ≤ 255) (q : Int) (hq : -9223372036854775808 ≤ q ∧ q ≤ 9223372036854775807) :
    Calls Try.prog 5 #[.slice A n c, .int .i64 q] w fun e w' => e = .returned (.bool true) ∧ Below w.heap.size w w' := by
  have hput := put_ok A n c B l w hrd hB hm hc hl
  obtain ⟨D, hD⟩ : ∃ D, D = putT (l.take 40) := ⟨_, rfl⟩
  obtain ⟨h8, h41⟩ := putT_is l
  rw [← hD] at hput h8 h41
  clear hD
  replace hput := Lib.hid hput
  replace h8 := Lib.hid h8
  obtain ⟨q1, q2⟩ := hq
  go_enter Try.func5, Try.ntmps5
  go_upto_region 5 with (first
    | (go_at_call 19; refine hput.out.mono ?_; rintro e W' ⟨d, A1, c1, A2, c2, rfl, hS⟩)
    | (go_at_call 20; refine (run_now hS rfl).mono ?_; rintro e W4 ⟨rfl, rfl⟩))
  go_cut [39, 40, 41] (fun s l i wx => BadAt W' s l i wx)
  case first =>
    go_wp2
    all_goals (go_meet; exact bad_mk (by omega) (by omega))
  case rest =>
    obtain ⟨S, b1, b2, rfl, rfl, rfl, hR, hBw, hb1, hb2⟩ := hcut
    have hS2 := hS.fresh hBw (r := ⟨3, .slice (some ⟨S, 0, none⟩) 3 3, [0, b1, b2]⟩) hR
    clear hS hR hBw
    replace hb1 := Lib.hid hb1
    replace hb2 := Lib.hid hb2
    go_wp2_with fail
    go_loopw [41] (fun i wr => ∃ k : Nat, k ≤ 3 ∧ i = .int .i64 k ∧ Run w [⟨3, .slice (some ⟨S, 0, none⟩) 3 3, [0, b1, b2]⟩, ⟨27, .slice A1 D.its.length c1, lits D⟩, ⟨3, .slice A2 D.its.length c2, lvls D⟩] d D wr) (fun i _ => 3 - (intOf i).toNat)
    case atStart => exact ⟨0, by omega, rfl, hS2⟩
    case round =>
      clear hS2
      obtain ⟨k, hk, rfl, hS⟩ := hrel
      by_cases hlt : k < 3
      · obtain ⟨x, hx, q0⟩ := row_cell (hS.row (r := ⟨3, .slice (some ⟨S, 0, none⟩) 3 3, [0, b1, b2]⟩) (by simp)) hlt
        have hxb : x = 0 ∨ x ≤ -9 ∨ 9 ≤ x := by
          have e1 := hb1.out
          have e2 := hb2.out
          have hk3 : k = 0 ∨ k = 1 ∨ k = 2 := by omega
          rcases hk3 with rfl | rfl | rfl <;> simp at hx <;> omega
        have hbad := asg_bad h8.out hxb 0
        replace hbad := Lib.hid hbad
        clear hx hxb
        have hlt2 : (k : Int) < 3 := by omega
        have hk0 : 0 ≤ (k : Int) := by omega
        go_wp2_with (first
          | (go_at_call 13; refine (run_assign (D' := D) hS x 0 (e := 40) hbad.out.1 hbad.out.2.1).mono ?_; rintro e W4 ⟨rfl, hS4⟩; clear hS; have hS := hS4; clear hS4)
          | (go_at_call 17; refine (run_value hS x (x := 0) hbad.out.2.2).mono ?_; rintro e W4 ⟨rfl, hS4⟩; clear hS; have hS := hS4; clear hS4))
        go_roundw
        case rel => exact ⟨k + 1, by omega, by go_num, hS⟩
        case measure => simp [intOf]; omega
      · obtain rfl : k = 3 := by omega
        clear hb1 hb2
        have hst1 := hS.ok.st2
        have hst2 := hS.ok.st1
        have hfew : D.its.length ≤ 8 := by have := hS.ok.few; have := h8.out; omega
        have t0 := Lib.hid trivial
        have t1 := Lib.hid trivial
        have t2 := Lib.hid trivial
        have t3 := Lib.hid trivial
        go_wp2_with (first
          | (go_at_call 13; clear t0; refine (run_assign (D' := D) hS 1 _ (e := 2) (asg_rsn h8.out (by omega) (by omega)).1 (asg_rsn h8.out (by omega) (by omega)).2).mono ?_; rintro e W4 ⟨rfl, hS4⟩; clear hS; have hS := hS4; clear hS4)
          | (go_at_call 13; clear t1; refine (run_assign (D' := D) hS (-1) _ (e := 2) (asg_rsn h8.out (by omega) (by omega)).1 (asg_rsn h8.out (by omega) (by omega)).2).mono ?_; rintro e W4 ⟨rfl, hS4⟩; clear hS; have hS := hS4; clear hS4)
          | (go_at_call 15; refine (run_back (D' := D) hS _ (e := 42) (bck_bad (by omega)).1 (bck_bad (by omega)).2).mono ?_; rintro e W4 ⟨rfl, hS4⟩; clear hS; have hS := hS4; clear hS4)
          | (go_at_call 26; refine (run_at hS _ (x := 0) (e := 2) (at_bad (by omega)).1 (at_bad (by omega)).2).mono ?_; rintro e W4 ⟨rfl, rfl⟩)
          | (go_at_call 27; refine (run_start hS _ (x := 0) (e := 42) (start_bad (by omega)).1 (start_bad (by omega)).2).mono ?_; rintro e W4 ⟨rfl, rfl⟩)
          | (go_at_call 10; refine (new_bad _ _ (by omega)).mono ?_; rintro e W4 ⟨rfl, rfl⟩)
          | (go_at_call 22; refine (run_literals hS).mono ?_; rintro e W4 ⟨A5, c5, rfl, hR5, hS4⟩; clear hS; have hS := hS4; clear hS4)
          | (go_at_call 21; clear t2; refine (equal_lits A5 A1 D.its.length c5 c1 (lits D) _ _ _ (Reads.of_own hR5) (hS.reads (r := ⟨27, .slice A1 D.its.length c1, lits D⟩) (by simp) (lits_len D)) (by omega)).mono ?_; rintro e W4 ⟨rfl, hB4⟩; have hS4 := hS.new hB4; clear hS hB4; have hS := hS4; clear hS4)
          | (go_at_call 20; refine (run_now hS rfl).mono ?_; rintro e W4 ⟨rfl, rfl⟩)
          | (go_at_call 18; refine (awake_ok _).mono ?_; rintro e W4 ⟨rfl, hB4⟩))
        all_goals
          go_ret
          exact ⟨rfl, hS.bel.trans (hB4.mono hS.bel.size)⟩
end Go.Proofs.Ytkedepkhcbhcdaa
