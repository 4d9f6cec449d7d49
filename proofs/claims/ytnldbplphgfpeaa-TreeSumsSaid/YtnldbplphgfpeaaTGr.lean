/- slices.Grow of no statements; slices.Concat of two lists of statements. -/
import Derived.Test.YtnldbplphgfpeaaTMs
import Derived.Lib.AppendZerosOnto
import Derived.Lib.SliceRun
namespace Go.Proofs.Ytnldbplphgfpeaa
open Go Go.RowKit Go.Shelf
set_option linter.unusedVariables false
set_option linter.unusedSimpArgs false
set_option maxHeartbeats 4000000
set_option maxRecDepth 100000 in
theorem grow_ok (n : Nat) (hn : n ≤ 100000) (w : World) : Calls Try.prog 56 #[.slice none 0 0, .int .i64 n] w fun e w' => ∃ v, e = .returned v ∧ w'.ownsRow w.heap.size 51 6 v 0 [] ∧ Below w.heap.size w w' := by
  obtain ⟨i0, hi, hz0, hz1, hz2⟩ := info_parts infoStmt
  have n0 : 0 ≤ (n : Int) := by omega
  have n1 : (n : Int) ≤ 100000 := by omega
  by_cases h0 : n = 0
  · subst h0
    go_enter Try.func56, Try.ntmps56
    go_wp2
    go_ret
    exact ⟨_, rfl, World.ownsRow_nil _ _ _ _, Below.refl _ _⟩
  · have n2 : 0 < (n : Int) := by omega
    have hold : (Builtin.firstCells i0.size 0 (.slice none 0 0)).run Try.prog w.drew = .ok ([] : List Value).toArray w.drew := run_firstCells_none w.drew i0.size 0 0 0
    have hbig : Builtin.nextslicecap (0 + n) 0 * i0.bytes ≤ 281474976710656 := growslice_fits (by omega) (by rw [hz2]; omega)
    have hrz := fun ty => Lib.run_append_grow_zeros w 33 3 ty 51 i0 _ .i64 .i64 Try.underlying33 Try.underlying3 hi hz0 none 0 0 [] hold n (by omega) (by omega) (by omega) (by omega) (by rw [hz2]; omega) hbig
    rw [Nat.zero_add] at hrz
    obtain ⟨G, hG⟩ : ∃ G, G = grownCap w n 0 51 := ⟨_, rfl⟩
    have hGn : n ≤ G := by rw [hG]; exact grownCap_ge w _ _ _
    have hGm : G ≤ maxLen := by rw [hG]; exact grownCap_le_maxLen w n 0 51 (by unfold maxLen; omega)
    rw [← hG] at hrz
    have hG63 : (G : Int) ≤ 9223372036854775807 := by unfold maxLen at hGm; omega
    obtain ⟨cs, hcs⟩ : ∃ cs, cs = (([] : List Value).toArray ++ Builtin.zeroCells (Value.agg #[.int .u8 0, .string ⟨#[]⟩, .slice none 0 0, .int .i64 0, .slice none 0 0, .slice none 0 0]).cells n ++ Builtin.zeroCells (Value.agg #[.int .u8 0, .string ⟨#[]⟩, .slice none 0 0, .int .i64 0, .slice none 0 0, .slice none 0 0]).cells (G - n)) := ⟨_, rfl⟩
    have hsz : cs.size = G * 6 := by
      rw [hcs]
      simp only [Array.size_append, size_zeroCells, List.size_toArray, List.length_nil]
      have e : (Value.agg #[.int .u8 0, .string ⟨#[]⟩, .slice none 0 0, .int .i64 0, .slice none 0 0, .slice none 0 0]).cells.size = 6 := rfl
      rw [e]; omega
    rw [← hcs] at hrz
    have hown : (w.drew.alloc (.cells cs 51)).ownsRow w.heap.size 51 6 (.slice (some ⟨w.heap.size, 0, none⟩) 0 G) 0 [] :=
      ⟨rfl, .inr ⟨w.heap.size, G, cs, rfl, Nat.le_refl _, Blk.new w.drew 51 cs, Nat.zero_le _, hGm, hsz, by simp⟩⟩
    have hB : Below w.heap.size w (w.drew.alloc (.cells cs 51)) := ((Below.refl _ w).drew).alloc (Nat.le_refl _) _
    replace hcs := Lib.hid hcs
    replace hG := Lib.hid hG
    replace hown := Lib.hid hown
    replace hB := Lib.hid hB
    clear hold hbig hsz hGm
    go_enter Try.func56, Try.ntmps56
    go_wp2_with (at_builtin; refine Lib.wpList_append_run _ rfl _ _ _ _ rfl _ _ rfl rfl _ _ (hrz _) ?_)
    all_goals (go_ret; exact ⟨_, rfl, hown.out, hB.out⟩)
set_option maxRecDepth 100000 in
theorem concat_ok (la lb : Loc) (a b : List (St Loc)) (gs : Nat) (w : World) (hbs : Blk w gs 33 #[.slice la.A a.length la.c, .slice lb.A b.length lb.c]) (ha : Lst.ok eT w la a) (hb : Lst.ok eT w lb b) (la4 : a.length ≤ 20000) (lb4 : b.length ≤ 20000) :
    Calls Try.prog 17 #[.slice (some ⟨gs, 0, none⟩) 2 2] w fun e w' => ∃ A c, e = .returned (.slice A (a.length + b.length) c) ∧ Lst.ok eT w' ⟨A, c⟩ (a ++ b) ∧ Below w.heap.size w w' := by
  obtain ⟨i0, hi, hz0, hz1, hz2⟩ := info_parts infoStmt
  replace hi := Lib.hid hi
  replace hz0 := Lib.hid hz0
  replace hz1 := Lib.hid hz1
  replace hz2 := Lib.hid hz2
  obtain ⟨na, hna⟩ : ∃ n, n = a.length := ⟨_, rfl⟩
  obtain ⟨nb, hnb⟩ : ∃ n, n = b.length := ⟨_, rfl⟩
  rw [← hna, ← hnb] at hbs ⊢
  have a0 : 0 ≤ (na : Int) := by omega
  have a1 : (na : Int) ≤ 20000 := by omega
  have b0 : 0 ≤ (nb : Int) := by omega
  have b1 : (nb : Int) ≤ 20000 := by omega
  have s1 : ¬ ((na : Int) < 0) := by omega
  have s2 : ¬ ((na : Int) + nb < 0) := by omega
  have hrow := ha.1
  have hrowb := hb.1
  rw [← hna] at hrow
  rw [← hnb] at hrowb
  have z0 := hbs.cell 0
  have z1 := hbs.cell 1
  simp only [List.getElem?_toArray, List.getElem?_cons_zero, List.getElem?_cons_succ] at z0 z1
  have lgs := hbs.lt
  have hg := grow_ok (na + nb) (by omega) w
  have e1 : ((na + nb : Nat) : Int) = (na : Int) + (nb : Int) := by omega
  rw [e1] at hg
  replace hg := Lib.hid hg
  replace hna := Lib.hid hna
  replace hnb := Lib.hid hnb
  replace hrow := Lib.hid hrow
  replace hrowb := Lib.hid hrowb
  clear e1
  go_enter Try.func17, Try.ntmps17
  go_wp2_with fail
  refine wp_loop_rounds 3 ?_
  rw [rounds_succ]
  go_wp2_with fail
  rw [rounds_succ]
  go_wp2_with fail
  rw [rounds_succ]
  go_wp2_with fail
  refine hg.out.mono ?_
  rintro e W1 ⟨v, rfl, hv, hB1⟩
  have hbs1 := hbs.below hB1 lgs
  have hr1 := (hrow.out.all (keeps_below hB1)).reads (by omega)
  have hr2 := hrowb.out.all (keeps_below hB1)
  have hw1 := hB1.size
  clear z0 z1 lgs hg
  have z0 := hbs1.cell 0
  have z1 := hbs1.cell 1
  simp only [List.getElem?_toArray, List.getElem?_cons_zero, List.getElem?_cons_succ] at z0 z1
  have lgs := hbs1.lt
  have hlow : gs < w.heap.size := hbs.lt
  have hfin : ∀ (v2 : Value) (W2 : World), W1.grownBy W2 v.ownBlock → Below w.heap.size w W2 ∧ (W2.cell? ⟨gs, 0, none⟩ = some (.slice la.A na la.c) ∧ W2.cell? ⟨gs, 1, none⟩ = some (.slice lb.A nb lb.c) ∧ gs < W2.heap.size) ∧ Reads W2 W2.heap.size 6 lb.A nb (cellsS eT b) ∧ w.heap.size ≤ W2.heap.size := fun v2 W2 hg => by
    have hB2 : Below w.heap.size w W2 := hB1.grown hg hw1 (fun k hk => (hv.lt k hk).1)
    have hb2 := hbs.below hB2 hlow
    exact ⟨hB2, ⟨hb2.cell 0, hb2.cell 1, hb2.lt⟩, (hrowb.out.all (keeps_below hB2)).reads (by omega), hB2.size⟩
  replace hfin := Lib.hid hfin
  replace hr2 := Lib.hid hr2
  replace hbs1 := Lib.hid hbs1
  replace hB1 := Lib.hid hB1
  go_wp2_with fail
  refine wp_loop_rounds 3 ?_
  rw [rounds_succ]
  go_wp2_with (at_builtin; refine wpList_append_any _ rfl (.tmp 31) (.tmp 32) 33 rfl w.heap.size 51 i0 _ 6 104 Try.underlying33 hi.out hz0.out hz1.out hz2.out rfl (by omega) v 0 [] rfl hv _ la.A na la.c (cellsS eT a) rfl hr1 (cellsS_one _ _) (by simp only [maxLen]; omega) (by omega) hw1 ?_; intro v2 W2 hown2 hg2 _; obtain ⟨hB2, ⟨y0, y1, y2⟩, hr3, hw2⟩ := hfin.out v2 W2 hg2; clear z0 z1 lgs; replace hB2 := Lib.hid hB2; replace hg2 := Lib.hid hg2)
  rw [rounds_succ]
  go_wp2_with (at_builtin; refine wpList_append_any _ rfl (.tmp 31) (.tmp 32) 33 rfl w.heap.size 51 i0 _ 6 104 Try.underlying33 hi.out hz0.out hz1.out hz2.out rfl (by omega) v2 (0 + na) ([] ++ cellsS eT a) rfl hown2 _ lb.A nb lb.c (cellsS eT b) rfl hr3 (cellsS_one _ _) (by simp only [maxLen]; omega) (by omega) hw2 ?_; intro v3 W3 hown3 hg3 _; have hB3 := hB2.out.grown hg3 hw2 (fun k hk => (hown2.lt k hk).1); replace hB3 := Lib.hid hB3; clear y0 y1; replace hg3 := Lib.hid hg3)
  rw [rounds_succ]
  go_wp2_with fail
  go_ret
  obtain ⟨A', c', rfl⟩ := own_form hown3
  refine ⟨A', c', by (show Ending.returned (.slice A' (0 + na + nb) c') = _; rw [Nat.zero_add]), ⟨?_, ?_⟩, hB3.out⟩
  · have := own_row (l := ⟨A', c'⟩) hown3
    rw [Nat.zero_add, List.nil_append, ← cellsS_append] at this
    rw [List.length_append, ← hna.out, ← hnb.out]
    exact this
  · refine okS_iff.2 fun x hx => ?_
    rcases List.mem_append.1 hx with hx | hx
    · exact (okS_iff.1 ha.2 x hx).below hB3.out
    · exact (okS_iff.1 hb.2 x hx).below hB3.out
end Go.Proofs.Ytnldbplphgfpeaa
