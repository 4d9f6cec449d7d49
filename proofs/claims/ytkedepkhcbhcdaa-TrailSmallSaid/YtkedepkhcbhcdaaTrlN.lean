/- Trails: put. -/
import Derived.Test.YtkedepkhcbhcdaaTrlM
namespace Go.Proofs.Ytkedepkhcbhcdaa
open Go Go.RowKit Go.Shelf
set_option linter.unusedVariables false
set_option linter.unusedSimpArgs false
set_option maxHeartbeats 4000000
theorem first_cell {w : World} {base c : Nat} {e : TypeId} {A : Option Addr} {u : Value} (h : w.ownsRow base e 1 (.slice A 1 c) 1 [u]) : ∃ g, A = some ⟨g, 0, none⟩ ∧ w.cell? ⟨g, 0, none⟩ = some u ∧ 1 ≤ c := by
  obtain ⟨g, cap, hv, _, _⟩ := h.form (by omega)
  injection hv with hA _ hc
  subst hA
  exact ⟨g, rfl, by have := h.cellAt (g := g) 0 (by omega); simpa using this, (own_cap h).1⟩
/-- What a step of put does. -/
theorem put_step {D0 D1 D2 : Trl} {b x : Int} {k : Nat} (hF : Few D0 k) (h0 : 1 ≤ D0.st.length) (hk : k < 40) (hb : 0 ≤ b ∧ b ≤ 255) (hx : x = madeL b) (h1 : D1 = preS D0 b) (h2 : D2 = putS D0 b) :
    (b % 5 = 0 → pshE D0 = 0 ∧ pshD D0 = D1 ∧ (D0.st.length : Int) - 1 + 1 = (D1.st.length : Int) - 1) ∧ (b % 5 ≠ 0 → D1 = D0) ∧
    (valD D1 x = 0 → asgE D1 x b = 0 ∧ lits D2 = lits D0 ++ [x] ∧ lvls D2 = lvls D0 ++ [(D1.st.length : Int) - 1]) ∧ (valD D1 x ≠ 0 → asgE D1 x b = 41 ∧ lits D2 = lits D0 ∧ lvls D2 = lvls D0) ∧
    asgD D1 x b = D2 ∧ D2.st = D1.st := by
  subst hx
  have hF1 : Few D1 (k + 1) := by rw [h1]; exact preS_few hF (by omega) b
  have hi : D1.its = D0.its := by rw [h1]; exact preS_its D0 b
  have hm := asg_made hF1.n8 (madeL_bd b hb.1) (r := b) (by omega)
  have h3 : asgD D1 (madeL b) b = D2 := by rw [h2, putS, ← h1]
  refine ⟨fun hp => ?_, fun hp => ?_, fun hz => ?_, fun hz => ?_, h3, ?_⟩
  · obtain ⟨e1, e2⟩ := pshE_few hF (by omega)
    have e3 : D1 = psh D0 := by rw [h1, preS, if_pos hp, e2]
    exact ⟨e1, by rw [e2, e3], by rw [e3]; simp [psh]⟩
  · rw [h1, preS, if_neg hp]
  · have he := hm.2.2 hz
    have h4 : D2 = asg D1 (madeL b) b := by rw [← h3, asgD, if_pos he]
    refine ⟨he, ?_, ?_⟩
    · rw [h4]; simp [lits, asg, hi]
    · have := hF1.n8
      have h5 : 1 ≤ D1.st.length := by
        rw [h1, preS]
        split
        · rw [(pshE_few hF (by omega)).2]; simp [psh]
        · exact h0
      rw [h4]; simp [lvls, asg, hi]; omega
  · have he : asgE D1 (madeL b) b = 41 := by
      rcases hm.1 with e | e
      · exact absurd (hm.2.1 e) hz
      · exact e
    have h4 : D2 = D1 := by rw [← h3, asgD, if_neg (by rw [he]; decide)]
    refine ⟨he, ?_, ?_⟩ <;> rw [h4] <;> simp [lits, lvls, hi]
  · rw [← h3]; exact (asgD_n _ _ _).2
theorem run_append {w W W' : World} {rs : List Row} {d : Nat} {D : Trl} {r : Row} {v' : Value} {x : Int} (h : Run w (r :: rs) d D W) (hne : ∀ r' ∈ rs, r'.e ≠ r.e) (hown : W'.ownsRow w.heap.size r.e 1 v' (r.l.length + 1) (litV r.l ++ [.int .i64 x]))
    (hg : W.grownBy W' r.v.ownBlock) (hat : v'.ownBlock = r.v.ownBlock ∨ v'.ownBlock = some W.heap.size) : Run w (⟨r.e, v', r.l ++ [x]⟩ :: rs) d D W' :=
  run_grow h hne (own_cast hown (by simp) (by simp [litV])) hg hat
set_option maxRecDepth 100000 in
theorem put_few (A : Option Addr) (n c B : Nat) (l : List Int) (w : World) (hrd : Reads w B 1 A n (l.map (Value.int .u8))) (hB : B ≤ w.heap.size) (hn : n ≤ 40) (hc : n ≤ c) (hl : ∀ x ∈ l, 0 ≤ x ∧ x ≤ 255) :
    Calls Try.prog 19 #[.slice A n c] w fun e w' => ∃ d A1 c1 A2 c2, e = .returned (.tuple #[.pointer (some ⟨d, 0, none⟩), .slice A1 (putT l).its.length c1, .slice A2 (putT l).its.length c2, .bool true]) ∧
      Run w [⟨27, .slice A1 (putT l).its.length c1, lits (putT l)⟩, ⟨3, .slice A2 (putT l).its.length c2, lvls (putT l)⟩] d (putT l) w' := by
  obtain ⟨i0, hi, hz0, hz1, hz2⟩ := info_parts info27
  have hll : l.length = n := by have := hrd.1; simpa using this
  have i1 : (n : Int) ≤ 40 := by omega
  have i2 : ¬ 40 < (n : Int) := by omega
  obtain ⟨j0, hj, hj0, hj1, hj2⟩ := info_parts info3
  replace hl := Lib.hid hl
  replace hll := Lib.hid hll
  go_enter Try.func19, Try.ntmps19
  go_wp2_with (go_at_call 10; refine (run_new (w := w) 8 (by omega) (Below.refl _ _)).mono ?_; rintro e W' ⟨d, rfl, hS⟩)
  go_loopw [8, 9, 10, 33] (fun va vl lv i wr => ∃ (k : Nat), k ≤ n ∧ i = .int .i64 k ∧ lv = .int .i64 (((putT (l.take k)).st.length : Int) - 1) ∧ Run w [⟨27, va, lits (putT (l.take k))⟩, ⟨3, vl, lvls (putT (l.take k))⟩] d (putT (l.take k)) wr) (fun _ _ _ i _ => n - (intOf i).toNat)
  case atStart => exact ⟨0, by omega, rfl, rfl, (hS.nil 3 0).nil 27 0⟩
  case round =>
    obtain ⟨k, hk, rfl, rfl, hS⟩ := hrel
    by_cases hlt : k < n
    · obtain ⟨ad, b, rfl, hab, hb, q0⟩ := reads_num (hrd.below (hS.bel.mono hB)) hlt
      have hbb := hl.out b (List.mem_of_getElem? hb)
      have hF : Few (putT (l.take k)) k := putT_few (by omega) (by rw [hll.out]; omega)
      have hx := madeL_bd b hbb.1
      have t1 : (k : Int) < (n : Int) := by omega
      have t3 : 0 ≤ (k : Int) := by omega
      have hw0 := hS.bel.size
      obtain ⟨x, hxe⟩ : ∃ x, x = madeL b := ⟨_, rfl⟩
      obtain ⟨D1, hD1⟩ : ∃ D, D = preS (putT (l.take k)) b := ⟨_, rfl⟩
      obtain ⟨D2, hD2⟩ : ∃ D, D = putT (l.take (k + 1)) := ⟨_, rfl⟩
      obtain ⟨fp, fn, fz, fs, fd, ft⟩ := put_step hF hS.ok.st2 (by omega) hbb hxe hD1 (hD2.trans (putT_snoc hb))
      have hnx : ∀ (vA vL : Value) (W' : World) (lv : Int), Run w [⟨27, vA, lits D2⟩, ⟨3, vL, lvls D2⟩] d D2 W' → lv = (D1.st.length : Int) - 1 →
          ∃ (k' : Nat), k' ≤ n ∧ Value.int .i64 ((k : Int) + 1) = .int .i64 k' ∧ Value.int .i64 lv = .int .i64 (((putT (l.take k')).st.length : Int) - 1) ∧ Run w [⟨27, vA, lits (putT (l.take k'))⟩, ⟨3, vL, lvls (putT (l.take k'))⟩] d (putT (l.take k')) W' := by
        intro vA vL W' lv hR hlv
        refine ⟨k + 1, by omega, by simp, ?_, ?_⟩
        · rw [hlv, ← hD2, ft]
        · rw [← hD2]; exact hR
      replace hnx := Lib.hid hnx
      have hlD0 : (lits (putT (l.take k))).length < 1000 := by
        have := hS.ok.few
        have := hF.n8
        rw [lits_len]; omega
      have hvD0 : (lvls (putT (l.take k))).length < 1000 := by
        rw [lvls_len, ← lits_len]; exact hlD0
      have hex : madeL b = x := hxe.symm
      generalize putT (l.take k) = D0 at *
      obtain ⟨s, hs⟩ : ∃ s : Int, s = (D0.st.length : Int) - 1 := ⟨_, rfl⟩
      have s0 : 0 ≤ s := by have := hS.ok.st2; omega
      have s1 : s ≤ 40 := by have := hF.st; omega
      rw [← hs] at fp ⊢
      replace hs := Lib.hid hs
      clear hD1 hD2 hF hxe hb
      replace fp := Lib.hid fp
      replace fn := Lib.hid fn
      replace fz := Lib.hid fz
      replace fs := Lib.hid fs
      replace fd := Lib.hid fd
      replace ft := Lib.hid ft
      by_cases hp : b % 5 = 0
      · have hb5 : (b % 5 == 0) = true := by simpa using hp
        have f1 := fp.out hp
        clear hp
        replace f1 := Lib.hid f1
        by_cases hz : valD D1 x = 0
        · have f2 := fz.out hz
          have hzb : (valD D1 x == 0) = true := by simpa using hz
          replace f2 := Lib.hid f2
          replace hz := Lib.hid hz
          go_wp2_with (first
            | (go_at_call 12; refine (run_push (D' := D1) hS (e := 0) f1.out.1 f1.out.2.1).mono ?_; rintro e W4 ⟨rfl, hS4⟩; clear hS; have hS := hS4; clear hS4)
            | (go_at_call 38; refine (made38 _ 1 1 (_ + 1) [b] _ (lit_reads _ _ _) (by simp) (by omega) (by omega) (by intro y hy; simp at hy; subst hy; exact hbb)).mono ?_; rintro e W4 ⟨A4, c4, rfl, hown4, hB4⟩; obtain ⟨g4, rfl, q4, q5⟩ := first_cell hown4; have hS4 := (hS.new ((Below.refl _ _).alloc (Nat.le_refl _) _)).new hB4; clear hS hown4 hB4; have hS := hS4; clear hS4)
            | (go_at_call 17; refine (run_value hS x rfl).mono ?_; rintro e W4 ⟨rfl, hS4⟩; clear hS; have hS := hS4; clear hS4)
            | (go_at_call 13; refine (run_assign (D' := D2) hS x b (e := 0) f2.out.1 fd.out).mono ?_; rintro e W5 ⟨rfl, hS4⟩; clear hS; have hS := hS4; clear hS4; have hw5 := hS.bel.size)
            | (at_builtin; refine wpList_append_any _ rfl _ _ 39 rfl w.heap.size 27 i0 _ 1 8 Try.underlying39 hi hz0 hz1 hz2 rfl (by omega) u8 (lits D0).length (litV (lits D0)) rfl ((hS.new ((Below.refl _ _).alloc (Nat.le_refl _) _)).row (r := ⟨27, u8, lits D0⟩) (by simp)) (W5.heap.size + 1) (some ⟨W5.heap.size, 0, none⟩) 1 1 [.int .i64 x] rfl (lit_reads W5 27 _) (by simp [Value.oneCell']) (by simp only [maxLen]; omega) (by omega) (by simp; omega) ?_; intro v8 W6 hown hgrow hat; have hS6 := run_append (hS.new ((Below.refl _ _).alloc (Nat.le_refl _) _)) (by simp) hown hgrow hat; clear hS hown hgrow hat; have hS := hS6.swap; clear hS6; have hw6 := hS.bel.size)
            | (at_builtin; refine wpList_append_any _ rfl _ _ 40 rfl w.heap.size 3 j0 _ 1 8 Try.underlying40 hj hj0 hj1 hj2 rfl (by omega) u9 (lvls D0).length (litV (lvls D0)) rfl ((hS.new ((Below.refl _ _).alloc (Nat.le_refl _) _)).row (r := ⟨3, u9, lvls D0⟩) (by simp)) (W6.heap.size + 1) (some ⟨W6.heap.size, 0, none⟩) 1 1 [.int .i64 (s + 1)] rfl (lit_reads W6 3 _) (by simp [Value.oneCell']) (by simp only [maxLen]; omega) (by omega) (by simp; omega) ?_; intro v9 W7 hown hgrow hat; have hS7 := run_append (hS.new ((Below.refl _ _).alloc (Nat.le_refl _) _)) (by simp) hown hgrow hat; clear hS hown hgrow hat; have hS := hS7.swap; clear hS7))
          go_roundw
          case rel => exact hnx.out _ _ _ _ (by rw [f2.out.2.1, f2.out.2.2, ← f1.out.2.2]; exact hS) f1.out.2.2
          case measure => simp [intOf]; omega
        · have f2 := fs.out hz
          have hzb : (valD D1 x == 0) = false := by simpa using hz
          replace f2 := Lib.hid f2
          replace hz := Lib.hid hz
          go_wp2_with (first
            | (go_at_call 12; refine (run_push (D' := D1) hS (e := 0) f1.out.1 f1.out.2.1).mono ?_; rintro e W4 ⟨rfl, hS4⟩; clear hS; have hS := hS4; clear hS4)
            | (go_at_call 38; refine (made38 _ 1 1 (_ + 1) [b] _ (lit_reads _ _ _) (by simp) (by omega) (by omega) (by intro y hy; simp at hy; subst hy; exact hbb)).mono ?_; rintro e W4 ⟨A4, c4, rfl, hown4, hB4⟩; obtain ⟨g4, rfl, q4, q5⟩ := first_cell hown4; have hS4 := (hS.new ((Below.refl _ _).alloc (Nat.le_refl _) _)).new hB4; clear hS hown4 hB4; have hS := hS4; clear hS4)
            | (go_at_call 17; refine (run_value hS x rfl).mono ?_; rintro e W4 ⟨rfl, hS4⟩; clear hS; have hS := hS4; clear hS4)
            | (go_at_call 13; refine (run_assign (D' := D2) hS x b (e := 41) f2.out.1 fd.out).mono ?_; rintro e W5 ⟨rfl, hS4⟩; clear hS; have hS := hS4; clear hS4; have hw5 := hS.bel.size))
          go_roundw
          case rel => exact hnx.out _ _ _ _ (by rw [f2.out.2.1, f2.out.2.2]; exact hS) f1.out.2.2
          case measure => simp [intOf]; omega
      · have hb5 : (b % 5 == 0) = false := by simpa using hp
        obtain rfl : D0 = D1 := (fn.out hp).symm
        have f1 : True ∧ True ∧ s = (D0.st.length : Int) - 1 := ⟨trivial, trivial, hs.out⟩
        clear hp
        replace f1 := Lib.hid f1
        by_cases hz : valD D0 x = 0
        · have f2 := fz.out hz
          have hzb : (valD D0 x == 0) = true := by simpa using hz
          replace f2 := Lib.hid f2
          replace hz := Lib.hid hz
          go_wp2_with (first
            | (go_at_call 38; refine (made38 _ 1 1 (_ + 1) [b] _ (lit_reads _ _ _) (by simp) (by omega) (by omega) (by intro y hy; simp at hy; subst hy; exact hbb)).mono ?_; rintro e W4 ⟨A4, c4, rfl, hown4, hB4⟩; obtain ⟨g4, rfl, q4, q5⟩ := first_cell hown4; have hS4 := (hS.new ((Below.refl _ _).alloc (Nat.le_refl _) _)).new hB4; clear hS hown4 hB4; have hS := hS4; clear hS4)
            | (go_at_call 17; refine (run_value hS x rfl).mono ?_; rintro e W4 ⟨rfl, hS4⟩; clear hS; have hS := hS4; clear hS4)
            | (go_at_call 13; refine (run_assign (D' := D2) hS x b (e := 0) f2.out.1 fd.out).mono ?_; rintro e W5 ⟨rfl, hS4⟩; clear hS; have hS := hS4; clear hS4; have hw5 := hS.bel.size)
            | (at_builtin; refine wpList_append_any _ rfl _ _ 39 rfl w.heap.size 27 i0 _ 1 8 Try.underlying39 hi hz0 hz1 hz2 rfl (by omega) u8 (lits D0).length (litV (lits D0)) rfl ((hS.new ((Below.refl _ _).alloc (Nat.le_refl _) _)).row (r := ⟨27, u8, lits D0⟩) (by simp)) (W5.heap.size + 1) (some ⟨W5.heap.size, 0, none⟩) 1 1 [.int .i64 x] rfl (lit_reads W5 27 _) (by simp [Value.oneCell']) (by simp only [maxLen]; omega) (by omega) (by simp; omega) ?_; intro v8 W6 hown hgrow hat; have hS6 := run_append (hS.new ((Below.refl _ _).alloc (Nat.le_refl _) _)) (by simp) hown hgrow hat; clear hS hown hgrow hat; have hS := hS6.swap; clear hS6; have hw6 := hS.bel.size)
            | (at_builtin; refine wpList_append_any _ rfl _ _ 40 rfl w.heap.size 3 j0 _ 1 8 Try.underlying40 hj hj0 hj1 hj2 rfl (by omega) u9 (lvls D0).length (litV (lvls D0)) rfl ((hS.new ((Below.refl _ _).alloc (Nat.le_refl _) _)).row (r := ⟨3, u9, lvls D0⟩) (by simp)) (W6.heap.size + 1) (some ⟨W6.heap.size, 0, none⟩) 1 1 [.int .i64 s] rfl (lit_reads W6 3 _) (by simp [Value.oneCell']) (by simp only [maxLen]; omega) (by omega) (by simp; omega) ?_; intro v9 W7 hown hgrow hat; have hS7 := run_append (hS.new ((Below.refl _ _).alloc (Nat.le_refl _) _)) (by simp) hown hgrow hat; clear hS hown hgrow hat; have hS := hS7.swap; clear hS7))
          go_roundw
          case rel => exact hnx.out _ _ _ _ (by rw [f2.out.2.1, f2.out.2.2, ← f1.out.2.2]; exact hS) f1.out.2.2
          case measure => simp [intOf]; omega
        · have f2 := fs.out hz
          have hzb : (valD D0 x == 0) = false := by simpa using hz
          replace f2 := Lib.hid f2
          replace hz := Lib.hid hz
          go_wp2_with (first
            | (go_at_call 38; refine (made38 _ 1 1 (_ + 1) [b] _ (lit_reads _ _ _) (by simp) (by omega) (by omega) (by intro y hy; simp at hy; subst hy; exact hbb)).mono ?_; rintro e W4 ⟨A4, c4, rfl, hown4, hB4⟩; obtain ⟨g4, rfl, q4, q5⟩ := first_cell hown4; have hS4 := (hS.new ((Below.refl _ _).alloc (Nat.le_refl _) _)).new hB4; clear hS hown4 hB4; have hS := hS4; clear hS4)
            | (go_at_call 17; refine (run_value hS x rfl).mono ?_; rintro e W4 ⟨rfl, hS4⟩; clear hS; have hS := hS4; clear hS4)
            | (go_at_call 13; refine (run_assign (D' := D2) hS x b (e := 41) f2.out.1 fd.out).mono ?_; rintro e W5 ⟨rfl, hS4⟩; clear hS; have hS := hS4; clear hS4; have hw5 := hS.bel.size))
          go_roundw
          case rel => exact hnx.out _ _ _ _ (by rw [f2.out.2.1, f2.out.2.2]; exact hS) f1.out.2.2
          case measure => simp [intOf]; omega
    · obtain rfl : k = n := by omega
      rw [List.take_of_length_le (by rw [hll.out]; exact Nat.le_refl _)] at hS ⊢
      obtain ⟨A8, c8, rfl⟩ : ∃ A c, u8 = .slice A (lits (putT l)).length c := own_form (hS.row (r := ⟨27, u8, lits (putT l)⟩) (by simp))
      obtain ⟨A9, c9, rfl⟩ : ∃ A c, u9 = .slice A (lvls (putT l)).length c := own_form (hS.row (r := ⟨3, u9, lvls (putT l)⟩) (by simp))
      simp only [lits_len, lvls_len] at hS ⊢
      have hst0 : 1 ≤ (putT l).st.length := hS.ok.st2
      have hst1 := hS.ok.st1
      go_wp2_with (go_at_call 20; refine (run_now hS rfl).mono ?_; rintro e W4 ⟨rfl, rfl⟩)
      (try simp only [Exit.inBlock, Exit.then]); refine bodyPost_ret (results_tmp4 rfl _ _ _) rfl ?_
      exact ⟨d, A8, c8, A9, c9, rfl, hS⟩
set_option maxRecDepth 100000 in
theorem put_many (A : Option Addr) (n c B : Nat) (l : List Int) (w : World) (hrd : Reads w B 1 A n (l.map (Value.int .u8))) (hB : B ≤ w.heap.size) (hn : 40 < n) (hm : n ≤ 9223372036854775807) (hc : n ≤ c) (hl : ∀ x ∈ l, 0 ≤ x ∧ x ≤ 255) :
    Calls Try.prog 19 #[.slice A n c] w fun e w' => ∃ d A1 c1 A2 c2, e = .returned (.tuple #[.pointer (some ⟨d, 0, none⟩), .slice A1 (putT (l.take 40)).its.length c1, .slice A2 (putT (l.take 40)).its.length c2, .bool true]) ∧
      Run w [⟨27, .slice A1 (putT (l.take 40)).its.length c1, lits (putT (l.take 40))⟩, ⟨3, .slice A2 (putT (l.take 40)).its.length c2, lvls (putT (l.take 40))⟩] d (putT (l.take 40)) w' := by
  obtain ⟨i0, hi, hz0, hz1, hz2⟩ := info_parts info27
  have hll : l.length = n := by have := hrd.1; simpa using this
  have i1 : 40 < (n : Int) := by omega
  have i2 : ¬ (n : Int) < 40 := by omega
  have i3 : (40 : Int) ≤ (n : Int) := by omega
  obtain ⟨j0, hj, hj0, hj1, hj2⟩ := info_parts info3
  replace hl := Lib.hid hl
  replace hll := Lib.hid hll
  go_enter Try.func19, Try.ntmps19
  go_wp2_with (go_at_call 10; refine (run_new (w := w) 8 (by omega) (Below.refl _ _)).mono ?_; rintro e W' ⟨d, rfl, hS⟩)
  go_loopw [8, 9, 10, 33] (fun va vl lv i wr => ∃ (k : Nat), k ≤ 40 ∧ i = .int .i64 k ∧ lv = .int .i64 (((putT (l.take k)).st.length : Int) - 1) ∧ Run w [⟨27, va, lits (putT (l.take k))⟩, ⟨3, vl, lvls (putT (l.take k))⟩] d (putT (l.take k)) wr) (fun _ _ _ i _ => 40 - (intOf i).toNat)
  case atStart => exact ⟨0, by omega, rfl, rfl, (hS.nil 3 0).nil 27 0⟩
  case round =>
    obtain ⟨k, hk, rfl, rfl, hS⟩ := hrel
    by_cases hlt : k < 40
    · obtain ⟨ad, b, rfl, hab, hb, q0⟩ := reads_num (hrd.below (hS.bel.mono hB)) (show k < n by omega)
      have hbb := hl.out b (List.mem_of_getElem? hb)
      have hF : Few (putT (l.take k)) k := putT_few (by omega) (by rw [hll.out]; omega)
      have hx := madeL_bd b hbb.1
      have t1 : (k : Int) < 40 := by omega
      have t3 : 0 ≤ (k : Int) := by omega
      have hw0 := hS.bel.size
      obtain ⟨x, hxe⟩ : ∃ x, x = madeL b := ⟨_, rfl⟩
      obtain ⟨D1, hD1⟩ : ∃ D, D = preS (putT (l.take k)) b := ⟨_, rfl⟩
      obtain ⟨D2, hD2⟩ : ∃ D, D = putT (l.take (k + 1)) := ⟨_, rfl⟩
      obtain ⟨fp, fn, fz, fs, fd, ft⟩ := put_step hF hS.ok.st2 (by omega) hbb hxe hD1 (hD2.trans (putT_snoc hb))
      have hnx : ∀ (vA vL : Value) (W' : World) (lv : Int), Run w [⟨27, vA, lits D2⟩, ⟨3, vL, lvls D2⟩] d D2 W' → lv = (D1.st.length : Int) - 1 →
          ∃ (k' : Nat), k' ≤ 40 ∧ Value.int .i64 ((k : Int) + 1) = .int .i64 k' ∧ Value.int .i64 lv = .int .i64 (((putT (l.take k')).st.length : Int) - 1) ∧ Run w [⟨27, vA, lits (putT (l.take k'))⟩, ⟨3, vL, lvls (putT (l.take k'))⟩] d (putT (l.take k')) W' := by
        intro vA vL W' lv hR hlv
        refine ⟨k + 1, by omega, by simp, ?_, ?_⟩
        · rw [hlv, ← hD2, ft]
        · rw [← hD2]; exact hR
      replace hnx := Lib.hid hnx
      have hlD0 : (lits (putT (l.take k))).length < 1000 := by
        have := hS.ok.few
        have := hF.n8
        rw [lits_len]; omega
      have hvD0 : (lvls (putT (l.take k))).length < 1000 := by
        rw [lvls_len, ← lits_len]; exact hlD0
      have hex : madeL b = x := hxe.symm
      generalize putT (l.take k) = D0 at *
      obtain ⟨s, hs⟩ : ∃ s : Int, s = (D0.st.length : Int) - 1 := ⟨_, rfl⟩
      have s0 : 0 ≤ s := by have := hS.ok.st2; omega
      have s1 : s ≤ 40 := by have := hF.st; omega
      rw [← hs] at fp ⊢
      replace hs := Lib.hid hs
      clear hD1 hD2 hF hxe hb
      replace fp := Lib.hid fp
      replace fn := Lib.hid fn
      replace fz := Lib.hid fz
      replace fs := Lib.hid fs
      replace fd := Lib.hid fd
      replace ft := Lib.hid ft
      by_cases hp : b % 5 = 0
      · have hb5 : (b % 5 == 0) = true := by simpa using hp
        have f1 := fp.out hp
        clear hp
        replace f1 := Lib.hid f1
        by_cases hz : valD D1 x = 0
        · have f2 := fz.out hz
          have hzb : (valD D1 x == 0) = true := by simpa using hz
          replace f2 := Lib.hid f2
          replace hz := Lib.hid hz
          go_wp2_with (first
            | (go_at_call 12; refine (run_push (D' := D1) hS (e := 0) f1.out.1 f1.out.2.1).mono ?_; rintro e W4 ⟨rfl, hS4⟩; clear hS; have hS := hS4; clear hS4)
            | (go_at_call 38; refine (made38 _ 1 1 (_ + 1) [b] _ (lit_reads _ _ _) (by simp) (by omega) (by omega) (by intro y hy; simp at hy; subst hy; exact hbb)).mono ?_; rintro e W4 ⟨A4, c4, rfl, hown4, hB4⟩; obtain ⟨g4, rfl, q4, q5⟩ := first_cell hown4; have hS4 := (hS.new ((Below.refl _ _).alloc (Nat.le_refl _) _)).new hB4; clear hS hown4 hB4; have hS := hS4; clear hS4)
            | (go_at_call 17; refine (run_value hS x rfl).mono ?_; rintro e W4 ⟨rfl, hS4⟩; clear hS; have hS := hS4; clear hS4)
            | (go_at_call 13; refine (run_assign (D' := D2) hS x b (e := 0) f2.out.1 fd.out).mono ?_; rintro e W5 ⟨rfl, hS4⟩; clear hS; have hS := hS4; clear hS4; have hw5 := hS.bel.size)
            | (at_builtin; refine wpList_append_any _ rfl _ _ 39 rfl w.heap.size 27 i0 _ 1 8 Try.underlying39 hi hz0 hz1 hz2 rfl (by omega) u8 (lits D0).length (litV (lits D0)) rfl ((hS.new ((Below.refl _ _).alloc (Nat.le_refl _) _)).row (r := ⟨27, u8, lits D0⟩) (by simp)) (W5.heap.size + 1) (some ⟨W5.heap.size, 0, none⟩) 1 1 [.int .i64 x] rfl (lit_reads W5 27 _) (by simp [Value.oneCell']) (by simp only [maxLen]; omega) (by omega) (by simp; omega) ?_; intro v8 W6 hown hgrow hat; have hS6 := run_append (hS.new ((Below.refl _ _).alloc (Nat.le_refl _) _)) (by simp) hown hgrow hat; clear hS hown hgrow hat; have hS := hS6.swap; clear hS6; have hw6 := hS.bel.size)
            | (at_builtin; refine wpList_append_any _ rfl _ _ 40 rfl w.heap.size 3 j0 _ 1 8 Try.underlying40 hj hj0 hj1 hj2 rfl (by omega) u9 (lvls D0).length (litV (lvls D0)) rfl ((hS.new ((Below.refl _ _).alloc (Nat.le_refl _) _)).row (r := ⟨3, u9, lvls D0⟩) (by simp)) (W6.heap.size + 1) (some ⟨W6.heap.size, 0, none⟩) 1 1 [.int .i64 (s + 1)] rfl (lit_reads W6 3 _) (by simp [Value.oneCell']) (by simp only [maxLen]; omega) (by omega) (by simp; omega) ?_; intro v9 W7 hown hgrow hat; have hS7 := run_append (hS.new ((Below.refl _ _).alloc (Nat.le_refl _) _)) (by simp) hown hgrow hat; clear hS hown hgrow hat; have hS := hS7.swap; clear hS7))
          go_roundw
          case rel => exact hnx.out _ _ _ _ (by rw [f2.out.2.1, f2.out.2.2, ← f1.out.2.2]; exact hS) f1.out.2.2
          case measure => simp [intOf]; omega
        · have f2 := fs.out hz
          have hzb : (valD D1 x == 0) = false := by simpa using hz
          replace f2 := Lib.hid f2
          replace hz := Lib.hid hz
          go_wp2_with (first
            | (go_at_call 12; refine (run_push (D' := D1) hS (e := 0) f1.out.1 f1.out.2.1).mono ?_; rintro e W4 ⟨rfl, hS4⟩; clear hS; have hS := hS4; clear hS4)
            | (go_at_call 38; refine (made38 _ 1 1 (_ + 1) [b] _ (lit_reads _ _ _) (by simp) (by omega) (by omega) (by intro y hy; simp at hy; subst hy; exact hbb)).mono ?_; rintro e W4 ⟨A4, c4, rfl, hown4, hB4⟩; obtain ⟨g4, rfl, q4, q5⟩ := first_cell hown4; have hS4 := (hS.new ((Below.refl _ _).alloc (Nat.le_refl _) _)).new hB4; clear hS hown4 hB4; have hS := hS4; clear hS4)
            | (go_at_call 17; refine (run_value hS x rfl).mono ?_; rintro e W4 ⟨rfl, hS4⟩; clear hS; have hS := hS4; clear hS4)
            | (go_at_call 13; refine (run_assign (D' := D2) hS x b (e := 41) f2.out.1 fd.out).mono ?_; rintro e W5 ⟨rfl, hS4⟩; clear hS; have hS := hS4; clear hS4; have hw5 := hS.bel.size))
          go_roundw
          case rel => exact hnx.out _ _ _ _ (by rw [f2.out.2.1, f2.out.2.2]; exact hS) f1.out.2.2
          case measure => simp [intOf]; omega
      · have hb5 : (b % 5 == 0) = false := by simpa using hp
        obtain rfl : D0 = D1 := (fn.out hp).symm
        have f1 : True ∧ True ∧ s = (D0.st.length : Int) - 1 := ⟨trivial, trivial, hs.out⟩
        clear hp
        replace f1 := Lib.hid f1
        by_cases hz : valD D0 x = 0
        · have f2 := fz.out hz
          have hzb : (valD D0 x == 0) = true := by simpa using hz
          replace f2 := Lib.hid f2
          replace hz := Lib.hid hz
          go_wp2_with (first
            | (go_at_call 38; refine (made38 _ 1 1 (_ + 1) [b] _ (lit_reads _ _ _) (by simp) (by omega) (by omega) (by intro y hy; simp at hy; subst hy; exact hbb)).mono ?_; rintro e W4 ⟨A4, c4, rfl, hown4, hB4⟩; obtain ⟨g4, rfl, q4, q5⟩ := first_cell hown4; have hS4 := (hS.new ((Below.refl _ _).alloc (Nat.le_refl _) _)).new hB4; clear hS hown4 hB4; have hS := hS4; clear hS4)
            | (go_at_call 17; refine (run_value hS x rfl).mono ?_; rintro e W4 ⟨rfl, hS4⟩; clear hS; have hS := hS4; clear hS4)
            | (go_at_call 13; refine (run_assign (D' := D2) hS x b (e := 0) f2.out.1 fd.out).mono ?_; rintro e W5 ⟨rfl, hS4⟩; clear hS; have hS := hS4; clear hS4; have hw5 := hS.bel.size)
            | (at_builtin; refine wpList_append_any _ rfl _ _ 39 rfl w.heap.size 27 i0 _ 1 8 Try.underlying39 hi hz0 hz1 hz2 rfl (by omega) u8 (lits D0).length (litV (lits D0)) rfl ((hS.new ((Below.refl _ _).alloc (Nat.le_refl _) _)).row (r := ⟨27, u8, lits D0⟩) (by simp)) (W5.heap.size + 1) (some ⟨W5.heap.size, 0, none⟩) 1 1 [.int .i64 x] rfl (lit_reads W5 27 _) (by simp [Value.oneCell']) (by simp only [maxLen]; omega) (by omega) (by simp; omega) ?_; intro v8 W6 hown hgrow hat; have hS6 := run_append (hS.new ((Below.refl _ _).alloc (Nat.le_refl _) _)) (by simp) hown hgrow hat; clear hS hown hgrow hat; have hS := hS6.swap; clear hS6; have hw6 := hS.bel.size)
            | (at_builtin; refine wpList_append_any _ rfl _ _ 40 rfl w.heap.size 3 j0 _ 1 8 Try.underlying40 hj hj0 hj1 hj2 rfl (by omega) u9 (lvls D0).length (litV (lvls D0)) rfl ((hS.new ((Below.refl _ _).alloc (Nat.le_refl _) _)).row (r := ⟨3, u9, lvls D0⟩) (by simp)) (W6.heap.size + 1) (some ⟨W6.heap.size, 0, none⟩) 1 1 [.int .i64 s] rfl (lit_reads W6 3 _) (by simp [Value.oneCell']) (by simp only [maxLen]; omega) (by omega) (by simp; omega) ?_; intro v9 W7 hown hgrow hat; have hS7 := run_append (hS.new ((Below.refl _ _).alloc (Nat.le_refl _) _)) (by simp) hown hgrow hat; clear hS hown hgrow hat; have hS := hS7.swap; clear hS7))
          go_roundw
          case rel => exact hnx.out _ _ _ _ (by rw [f2.out.2.1, f2.out.2.2, ← f1.out.2.2]; exact hS) f1.out.2.2
          case measure => simp [intOf]; omega
        · have f2 := fs.out hz
          have hzb : (valD D0 x == 0) = false := by simpa using hz
          replace f2 := Lib.hid f2
          replace hz := Lib.hid hz
          go_wp2_with (first
            | (go_at_call 38; refine (made38 _ 1 1 (_ + 1) [b] _ (lit_reads _ _ _) (by simp) (by omega) (by omega) (by intro y hy; simp at hy; subst hy; exact hbb)).mono ?_; rintro e W4 ⟨A4, c4, rfl, hown4, hB4⟩; obtain ⟨g4, rfl, q4, q5⟩ := first_cell hown4; have hS4 := (hS.new ((Below.refl _ _).alloc (Nat.le_refl _) _)).new hB4; clear hS hown4 hB4; have hS := hS4; clear hS4)
            | (go_at_call 17; refine (run_value hS x rfl).mono ?_; rintro e W4 ⟨rfl, hS4⟩; clear hS; have hS := hS4; clear hS4)
            | (go_at_call 13; refine (run_assign (D' := D2) hS x b (e := 41) f2.out.1 fd.out).mono ?_; rintro e W5 ⟨rfl, hS4⟩; clear hS; have hS := hS4; clear hS4; have hw5 := hS.bel.size))
          go_roundw
          case rel => exact hnx.out _ _ _ _ (by rw [f2.out.2.1, f2.out.2.2]; exact hS) f1.out.2.2
          case measure => simp [intOf]; omega
    · obtain rfl : k = 40 := by omega
      obtain ⟨A8, c8, rfl⟩ : ∃ A c, u8 = .slice A (lits (putT (l.take 40))).length c := own_form (hS.row (r := ⟨27, u8, lits (putT (l.take 40))⟩) (by simp))
      obtain ⟨A9, c9, rfl⟩ : ∃ A c, u9 = .slice A (lvls (putT (l.take 40))).length c := own_form (hS.row (r := ⟨3, u9, lvls (putT (l.take 40))⟩) (by simp))
      simp only [lits_len, lvls_len] at hS ⊢
      have hst0 : 1 ≤ (putT (l.take 40)).st.length := hS.ok.st2
      have hst1 := hS.ok.st1
      go_wp2_with (go_at_call 20; refine (run_now hS rfl).mono ?_; rintro e W4 ⟨rfl, rfl⟩)
      (try simp only [Exit.inBlock, Exit.then]); refine bodyPost_ret (results_tmp4 rfl _ _ _) rfl ?_
      exact ⟨d, A8, c8, A9, c9, rfl, hS⟩
theorem put_ok (A : Option Addr) (n c B : Nat) (l : List Int) (w : World) (hrd : Reads w B 1 A n (l.map (Value.int .u8))) (hB : B ≤ w.heap.size) (hm : n ≤ 9223372036854775807) (hc : n ≤ c) (hl : ∀ x ∈ l, 0 ≤ x ∧ x ≤ 255) :
    Calls Try.prog 19 #[.slice A n c] w fun e w' => ∃ d A1 c1 A2 c2, e = .returned (.tuple #[.pointer (some ⟨d, 0, none⟩), .slice A1 (putT (l.take 40)).its.length c1, .slice A2 (putT (l.take 40)).its.length c2, .bool true]) ∧
      Run w [⟨27, .slice A1 (putT (l.take 40)).its.length c1, lits (putT (l.take 40))⟩, ⟨3, .slice A2 (putT (l.take 40)).its.length c2, lvls (putT (l.take 40))⟩] d (putT (l.take 40)) w' := by
  by_cases hn : n ≤ 40
  · have hll : l.length = n := by have := hrd.1; simpa using this
    rw [List.take_of_length_le (by omega)]
    exact put_few A n c B l w hrd hB hn hc hl
  · exact put_many A n c B l w hrd hB (by omega) hm hc hl
/-- The trail that put makes. -/
theorem putT_is (l : List Int) : (putT (l.take 40)).n = 8 ∧ (putT (l.take 40)).st.length ≤ 41 := by
  have h := putT_few (l := l.take 40) (k := (l.take 40).length) (by rw [List.length_take]; omega) (Nat.le_refl _)
  rw [List.take_length] at h
  exact ⟨h.n8, by have := h.st; rw [List.length_take] at this; omega⟩
end Go.Proofs.Ytkedepkhcbhcdaa
