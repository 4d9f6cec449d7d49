/- Trails: the reference: Back. -/
import Derived.Test.YtkedepkhcbhcdaaTrlY
namespace Go.Proofs.Ytkedepkhcbhcdaa
open Go Go.RowKit Go.Shelf
set_option linter.unusedVariables false
set_option linter.unusedSimpArgs false
set_option maxHeartbeats 4000000
/-- What Back leaves: the first items, the first starts. -/
theorem bck_m {D : Trl} (h : D.Ok) (k : Nat) (hk : k < D.st.length) : ∃ m, m ≤ D.its.length ∧ bck D k = { D with its := D.its.take m, st := D.st.take (k + 1) } ∧ ∀ (i : Nat) (x : Itm), D.its[i]? = some x → (i < m ↔ x.lvl ≤ k) := by
  obtain ⟨m, h1, h2, _, _, h5⟩ := bck_its h k hk
  refine ⟨m, h1, ?_, h5⟩
  unfold bck at h2 ⊢
  split
  · rename_i hlt
    rw [if_pos hlt] at h2
    simp only at h2
    rw [← h2]
  · rename_i hlt
    rw [if_neg hlt] at h2
    rw [← h2, List.take_of_length_le (by omega)]
theorem Ref.row2 {W : World} {B k : Nat} {D : Trl} {Ai : Option Addr} {x : Itm} (h : Reads W B 3 Ai D.its.length (encIs D.its)) (hx : D.its[k]? = some x) : ∃ ad, Ai = some ad ∧ ad.block < B ∧
    W.cell? (ad.add (k * 3)) = some (.int .i64 x.lit) ∧ W.cell? ⟨(ad.add (k * 3)).block, (ad.add (k * 3)).off + 1, none⟩ = some (.int .i64 x.rsn) ∧ W.cell? ⟨(ad.add (k * 3)).block, (ad.add (k * 3)).off + 2, none⟩ = some (.int .i64 x.lvl) := by
  obtain ⟨ad, e, hb, h0, h1, h2⟩ := Ref.row h hx
  have h3 : ∀ j, j ≠ 0 → (⟨(ad.add (k * 3)).block, (ad.add (k * 3)).off + j, none⟩ : Addr) = ad.add (k * 3 + j) := by
    intro j hj
    rw [← add_of_add]
    unfold Addr.add
    rw [if_neg hj]
  exact ⟨ad, e, hb, h0, by rw [h3 1 (by decide)]; exact h1, by rw [h3 2 (by decide)]; exact h2⟩
/-- While Back keeps items. -/
def BackAt (w : World) (D : Trl) (Ai As : Option Addr) (ci cs : Nat) (m j : Nat) (v6 : Value) (wr : World) : Prop :=
  wr.ownsRow w.heap.size 93 3 v6 (min j m) (encIs (D.its.take (min j m))) ∧ Below w.heap.size w wr ∧ Blk wr w.heap.size 82 #[.int .i64 D.n, .int .i64 ((D.st.length : Int) - 1), .slice Ai D.its.length ci, .slice As D.st.length cs] ∧
  Blk wr (w.heap.size + 1) 82 #[.int .i64 0, .int .i64 0, .slice none 0 0, .slice none 0 0]
theorem BackAt.keep {w : World} {D : Trl} {Ai As : Option Addr} {ci cs m j : Nat} {v6 : Value} {wr : World} (h : BackAt w D Ai As ci cs m j v6 wr) (hm : m ≤ j) : BackAt w D Ai As ci cs m (j + 1) v6 wr := by
  unfold BackAt at *
  rw [show min (j + 1) m = min j m by omega]
  exact h
theorem BackAt.step {w : World} {D : Trl} {Ai As : Option Addr} {ci cs m j : Nat} {A6 : Option Addr} {c6 : Nat} {wr w3 : World} {x : Itm} {v' : Value} (h : BackAt w D Ai As ci cs m j (.slice A6 (min j m) c6) wr) (hm : j < m) (hx : D.its[j]? = some x)
    (h1 : w3.ownsRow w.heap.size 93 3 v' (min j m + 1) (encIs (D.its.take (min j m)) ++ [.int .i64 x.lit, .int .i64 x.rsn, .int .i64 x.lvl])) (hg : (wr.alloc (.cells #[.int .i64 x.lit, .int .i64 x.rsn, .int .i64 x.lvl] 93)).grownBy w3 (Value.slice A6 (min j m) c6).ownBlock) : BackAt w D Ai As ci cs m (j + 1) v' w3 := by
  obtain ⟨a1, a2, a3, a4⟩ := h
  have hn1 := own_blk_ne a1 a3 (by decide)
  have hn2 := own_blk_ne a1 a4 (by decide)
  refine ⟨own_cast h1 (by omega) ?_, own_below (a2.alloc a2.size _) (by rw [World.size_alloc]; have := a2.size; omega) (row_new a1 ((Below.refl _ _).alloc (Nat.le_refl _) _)) hg, (a3.alloc _).grown hg hn1.symm, (a4.alloc _).grown hg hn2.symm⟩
  rw [show min (j + 1) m = j + 1 by omega, show min j m = j by omega, take_snoc hx, encIs_snoc]
  rfl
set_option maxRecDepth 100000 in
theorem rback {w : World} {v : Value} {D : Trl} {fp : List Nat} (hX : RefX fp w v D) (hfp : ∀ k ∈ fp, k < w.heap.size) (hok : D.Ok) (hst : D.st.length ≤ 1000) (hits : D.its.length ≤ 1000) (k : Int) : Calls Try.prog 45 #[v, .int .i64 k] w fun e w' => ∃ v', e = .returned (.tuple #[v', .int .i64 (bckE D k)]) ∧ RefX fp w' v' (bckD D k) ∧ Below w.heap.size w w' := by
  have hst1 := hok.st2
  have hn0 := hok.n0
  obtain ⟨Ai, ci, As, cs, rfl, hI, hS, k1, k2, k3, k4⟩ := hX.ref
  replace hX := Lib.hid hX
  replace hfp := Lib.hid hfp
  obtain ⟨j0, hj0', hj0, hj1, hj2⟩ := info_parts info93
  have s1 : (D.st.length : Int) ≤ 1000 := by omega
  have s2 : (D.its.length : Int) ≤ 1000 := by omega
  have hbox := (Blk.new w 82 #[.int .i64 D.n, .int .i64 ((D.st.length : Int) - 1), .slice Ai D.its.length ci, .slice As D.st.length cs]).alloc (.cells #[.int .i64 0, .int .i64 0, .slice none 0 0, .slice none 0 0] 82)
  have hz := Blk.new (w.alloc (.cells #[.int .i64 D.n, .int .i64 ((D.st.length : Int) - 1), .slice Ai D.its.length ci, .slice As D.st.length cs] 82)) 82 #[.int .i64 0, .int .i64 0, .slice none 0 0, .slice none 0 0]
  have hbb := Blk.new (w.alloc (.cells #[.int .i64 D.n, .int .i64 ((D.st.length : Int) - 1), .slice Ai D.its.length ci, .slice As D.st.length cs] 82)) 82 #[.int .i64 D.n, .int .i64 ((D.st.length : Int) - 1), .slice Ai D.its.length ci, .slice As D.st.length cs]
  rw [World.size_alloc] at hz hbb
  have hB0 : Below w.heap.size w ((w.alloc (.cells #[.int .i64 D.n, .int .i64 ((D.st.length : Int) - 1), .slice Ai D.its.length ci, .slice As D.st.length cs] 82)).alloc (.cells #[.int .i64 0, .int .i64 0, .slice none 0 0, .slice none 0 0] 82)) := ((Below.refl _ _).alloc (Nat.le_refl _) _).alloc (by simp) _
  have hBb : Below w.heap.size w ((w.alloc (.cells #[.int .i64 D.n, .int .i64 ((D.st.length : Int) - 1), .slice Ai D.its.length ci, .slice As D.st.length cs] 82)).alloc (.cells #[.int .i64 D.n, .int .i64 ((D.st.length : Int) - 1), .slice Ai D.its.length ci, .slice As D.st.length cs] 82)) := ((Below.refl _ _).alloc (Nat.le_refl _) _).alloc (by simp) _
  by_cases hbad : k < 0 ∨ (D.st.length : Int) ≤ k
  · rw [(bck_bad hbad).1, (bck_bad hbad).2]
    by_cases hk : k < 0
    · clear hbad hbox hz hB0
      replace hbb := Lib.hid hbb
      go_enter Try.func45, Try.ntmps45
      go_wp2
      refine bodyPost_ret (results_cell_row_tmp rfl _ _ (w.heap.size + 1) 82 _ (0, 0) _ rfl hbb.out Try.underlying82 rfl (by kernel_rfl)) rfl ?_
      exact ⟨_, rfl, hX.out.new hBb, hBb⟩
    · have hk2 : (D.st.length : Int) - 1 < k := by omega
      clear hbad hbox hz hB0
      replace hbb := Lib.hid hbb
      go_enter Try.func45, Try.ntmps45
      go_wp2
      refine bodyPost_ret (results_cell_row_tmp rfl _ _ (w.heap.size + 1) 82 _ (0, 0) _ rfl hbb.out Try.underlying82 rfl (by kernel_rfl)) rfl ?_
      exact ⟨_, rfl, hX.out.new hBb, hBb⟩
  · obtain ⟨kn, rfl⟩ : ∃ kn : Nat, k = (kn : Int) := ⟨k.toNat, by omega⟩
    have hkl : kn < D.st.length := by omega
    have hkE : bckE D (kn : Int) = 0 := if_pos (by omega)
    obtain ⟨m, hm, hD, hlv⟩ := bck_m hok kn hkl
    have hkD : bckD D (kn : Int) = { D with its := D.its.take m, st := D.st.take (kn + 1) } := by
      unfold bckD
      rw [if_pos (by omega), Int.toNat_natCast, hD]
    rw [hkE, hkD]
    have t1 : ¬ (kn : Int) < 0 := by omega
    have t2 : ¬ (D.st.length : Int) - 1 < (kn : Int) := by omega
    clear hbad hkE hkD hD hbb hBb
    replace hok := Lib.hid hok
    go_enter Try.func45, Try.ntmps45
    go_wp2_with fail
    have hb2 := hbox.cell 2
    simp only [List.getElem?_toArray, List.getElem?_cons_succ, List.getElem?_cons_zero] at hb2
    have hI0 : BackAt w D Ai As ci cs m 0 (.slice none 0 0) ((w.alloc (.cells #[.int .i64 D.n, .int .i64 ((D.st.length : Int) - 1), .slice Ai D.its.length ci, .slice As D.st.length cs] 82)).alloc (.cells #[.int .i64 0, .int .i64 0, .slice none 0 0, .slice none 0 0] 82)) :=
      ⟨by simpa [encIs] using World.ownsRow_nil _ w.heap.size 93 3, hB0, hbox, hz⟩
    generalize (w.alloc (.cells #[.int .i64 D.n, .int .i64 ((D.st.length : Int) - 1), .slice Ai D.its.length ci, .slice As D.st.length cs] 82)).alloc (.cells #[.int .i64 0, .int .i64 0, .slice none 0 0, .slice none 0 0] 82) = W0 at *
    go_loopw [6, 7] (fun v6 i wr => ∃ j : Nat, j ≤ D.its.length ∧ i = .int .i64 j ∧ BackAt w D Ai As ci cs m j v6 wr) (fun _ i _ => D.its.length - (intOf i).toNat)
    case atStart => exact ⟨0, by omega, rfl, hI0⟩
    case round =>
      obtain ⟨j, hj, rfl, hrow, hBr, hbx, hzz⟩ := hrel
      clear hI0 hB0 hbox hz hb2 W0
      obtain ⟨A6, c6, rfl⟩ := own_form hrow
      have b2 := hbx.cell 2
      simp only [List.getElem?_toArray, List.getElem?_cons_succ, List.getElem?_cons_zero] at b2
      by_cases hlt : j < D.its.length
      · obtain ⟨x, hx⟩ : ∃ x, D.its[j]? = some x := ⟨_, List.getElem?_eq_getElem hlt⟩
        obtain ⟨ad, hA, hadb, q0, q1, q2⟩ := Ref.row2 (hI.below hBr) hx
        subst hA
        have u1 : (j : Int) < (D.its.length : Int) := by omega
        have u0 : 0 ≤ (j : Int) := by omega
        have hx3 := hlv j x hx
        by_cases hjm : j < m
        · have u2 : (x.lvl : Int) ≤ (kn : Int) := by have := hx3.1 hjm; omega
          have hstep := fun (v' : Value) (w3 : World) h1 hg => BackAt.step (v' := v') (w3 := w3) ⟨hrow, hBr, hbx, hzz⟩ hjm hx h1 hg
          have hrow2 := row_new hrow ((Below.refl _ _).alloc (Nat.le_refl _) (.cells #[.int .i64 x.lit, .int .i64 x.rsn, .int .i64 x.lvl] 93))
          have hszr := hBr.size
          clear hx3 hlv hx
          replace hstep := Lib.hid hstep
          replace hrow := Lib.hid hrow
          replace hrow2 := Lib.hid hrow2
          go_wp2_with (at_builtin; refine wpList_append_any _ rfl _ _ 80 rfl w.heap.size 93 j0 _ 3 24 Try.underlying80 hj0' hj0 hj1 hj2 rfl (by omega) (.slice A6 (min j m) c6) (min j m) (encIs (D.its.take (min j m))) rfl hrow2.out (wr.heap.size + 1) (some ⟨wr.heap.size, 0, none⟩) 1 1 [.int .i64 x.lit, .int .i64 x.rsn, .int .i64 x.lvl] rfl (lit_reads3 wr 93 _ _ _) (by simp [Value.oneCell']) (by simp only [maxLen]; omega) (by omega) (by simp; omega) ?_; intro v' w3 hown hgrow hat; have hq := hstep.out v' w3 hown hgrow; replace hq := Lib.hid hq)
          go_roundw
          case rel => exact ⟨j + 1, by omega, by go_num, hq.out⟩
          case measure => simp [intOf]; omega
        · have u2 : ¬ (x.lvl : Int) ≤ (kn : Int) := by
            intro h
            exact hjm (hx3.2 (by omega))
          have hkeep := BackAt.keep ⟨hrow, hBr, hbx, hzz⟩ (show m ≤ j by omega)
          clear hx3 hlv hx hrow
          replace hkeep := Lib.hid hkeep
          go_wp2_with fail
          go_roundw
          case rel => exact ⟨j + 1, by omega, by go_num, hkeep.out⟩
          case measure => simp [intOf]; omega
      · obtain rfl : j = D.its.length := by omega
        have hmm : min D.its.length m = m := by omega
        rw [hmm] at hrow ⊢
        clear hlv hmm
        obtain ⟨ads, hAs, _, _⟩ := hS.2 (by omega)
        subst hAs
        have b1 := hbx.cell 1
        have b3 := hbx.cell 3
        have f1 := hbx.frozen 1
        have f2 := hbx.frozen 2
        have f3 := hbx.frozen 3
        simp only [List.getElem?_toArray, List.getElem?_cons_succ, List.getElem?_cons_zero] at b1 b3
        have w1 : (kn : Int) + 1 ≤ (cs : Int) := by omega
        have w2 : (kn : Int) + 1 ≤ (D.st.length : Int) := by omega
        have w3 : 0 ≤ (kn : Int) + 1 := by omega
        have w4 : (kn : Int) + 1 ≤ 1001 := by omega
        have hlw := hbx.lt
        have hwr : IntKind.i64.wrap ((kn : Int) + 1) = (kn : Int) + 1 := by
          simp [IntKind.wrap, IntKind.bits, IntKind.signed]; omega
        have htn : ((kn : Int) + 1).toNat = kn + 1 := by omega
        have w5 : (kn : Int) ≤ 1000 := by omega
        have w6 : 0 ≤ (kn : Int) := by omega
        have w7 : (kn : Int) ≤ (cs : Int) - 1 := by omega
        go_upto_region 9 with (fail)
        go_cut [46] from 40 to 49 (fun _ wx => Blk wx w.heap.size 82 #[.int .i64 D.n, .int .i64 kn, .slice A6 m c6, .slice (some ads) (kn + 1) cs] ∧ Blk wx (w.heap.size + 1) 82 #[.int .i64 0, .int .i64 0, .slice none 0 0, .slice none 0 0] ∧ wx.ownsRow w.heap.size 93 3 (.slice A6 m c6) m (encIs (D.its.take m)) ∧ Below w.heap.size w wx)
        case first =>
          have hne := own_blk_ne hrow hbx (by decide)
          have hs1 := ((hbx.set_ 2 (.slice A6 m c6)).set_ 1 (.int .i64 kn)).set_ 3 (.slice (some ads) (kn + 1) cs)
          have hO : Only [w.heap.size] wr (((wr.setCell ⟨w.heap.size, 2, none⟩ (.slice A6 m c6)).setCell ⟨w.heap.size, 1, none⟩ (.int .i64 kn)).setCell ⟨w.heap.size, 3, none⟩ (.slice (some ads) (kn + 1) cs)) :=
            (((Only.refl _ wr).setCell (.inl (by simp)) _).setCell (.inl (by simp)) _).setCell (.inl (by simp)) _
          have hfin := And.intro (show Blk _ w.heap.size 82 #[.int .i64 D.n, .int .i64 kn, .slice A6 m c6, .slice (some ads) (kn + 1) cs] from by simpa using hs1) (And.intro (hzz.only hO (by simp)) (And.intro (own_only hrow hO (fun i hi hm => by have := List.mem_singleton.1 hm; subst this; exact hne hi)) (hBr.trans (hO.below hBr.size (fun i hi => by have := List.mem_singleton.1 hi; omega)))))
          clear hs1 hO
          replace hfin := Lib.hid hfin
          go_region_law (fail)
          go_wp2
          go_meet
          exact ⟨hfin.out.1.drew, hfin.out.2.1.drew, hfin.out.2.2.1, below_dr hfin.out.2.2.2⟩
        case rest =>
          obtain ⟨h1, h2, h3, h4⟩ := hcut
          clear b1 b2 b3 f1 f2 f3 hbx hzz hBr hrow hlw
          have hcap9 := own_cap h3
          have c0 := h1.cell 0
          have c1 := h1.cell 1
          have c2 := h1.cell 2
          have c3 := h1.cell 3
          have e0 := h2.cell 0
          have e1 := h2.cell 1
          have e2 := h2.cell 2
          have e3 := h2.cell 3
          have g0 := h2.frozen 0
          have g1 := h2.frozen 1
          have g2 := h2.frozen 2
          have g3 := h2.frozen 3
          simp only [List.getElem?_toArray, List.getElem?_cons_succ, List.getElem?_cons_zero] at c0 c1 c2 c3 e0 e1 e2 e3
          go_wp2_with fail
          have hne := own_blk_ne h3 h2 (by decide)
          have hf := (((h2.set_ 0 (.int .i64 D.n)).set_ 1 (.int .i64 kn)).set_ 2 (.slice A6 m c6)).set_ 3 (.slice (some ads) (kn + 1) cs)
          have hO : Only [w.heap.size + 1] wc ((((wc.setCell ⟨w.heap.size + 1, 0, none⟩ (.int .i64 D.n)).setCell ⟨w.heap.size + 1, 1, none⟩ (.int .i64 kn)).setCell ⟨w.heap.size + 1, 2, none⟩ (.slice A6 m c6)).setCell ⟨w.heap.size + 1, 3, none⟩ (.slice (some ads) (kn + 1) cs)) :=
            ((((Only.refl _ wc).setCell (.inl (by simp)) _).setCell (.inl (by simp)) _).setCell (.inl (by simp)) _).setCell (.inl (by simp)) _
          have hB9 := h4.trans (hO.below h4.size (fun i hi => by have := List.mem_singleton.1 hi; omega))
          have h3' := own_only h3 hO (fun i hi hm => by have := List.mem_singleton.1 hm; subst this; exact hne hi)
          have hl1 : (D.its.take m).length = m := by rw [List.length_take]; omega
          have hl2 : (D.st.take (kn + 1)).length = kn + 1 := by rw [List.length_take]; omega
          refine bodyPost_ret (results_cell_row_tmp rfl _ _ (w.heap.size + 1) 82 _ (0, 0) _ rfl hf Try.underlying82 rfl (by kernel_rfl)) rfl ?_
          refine ⟨_, rfl, fun W2 ho => ⟨A6, c6, some ads, cs, ?_, ?_, ?_, ?_, hcap9.2, ?_, k4⟩, hB9⟩
          · simp [hl1, hl2]
          · have := Reads.of_own (own_only h3' ho (fun i hi hm => by have := hfp.out i hm; have := own_ge h3' i hi; omega))
            simpa [hl1] using this
          · have hr2 := (hX.out.rows hB9 ho).2
            have hr3 := hr2.take (kn + 1) (by omega)
            simpa [hl2, sts, litV, List.map_take] using hr3
          · rw [hl1]; exact hcap9.1
          · rw [hl2]; omega
end Go.Proofs.Ytkedepkhcbhcdaa
