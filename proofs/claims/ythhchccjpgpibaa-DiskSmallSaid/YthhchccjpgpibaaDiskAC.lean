/- Disks: the reference: New. -/
import Derived.Test.YthhchccjpgpibaaDiskAB
namespace Go.Proofs.Ythhchccjpgpibaa
open Go Go.RowKit Go.Shelf
set_option linter.unusedVariables false
set_option linter.unusedSimpArgs false
set_option maxHeartbeats 4000000
def newE (b wd n : Int) : Int := if b < 1 ∨ 16 < b then 340 else if wd < 1 ∨ 16 < wd then 220 else if b < n then 2 else 0
theorem rnew_bad {w : World} (b wd : Int) (A : Option Addr) (n c : Nat) (hb : -9223372036854775808 ≤ wd ∧ wd ≤ 9223372036854775807) {E : Int} (hE : newE b wd n = E) (h : E ≠ 0) :
    Calls Try.prog 39 #[.int .i64 b, .int .i64 wd, .slice A n c] w fun e w' => e = .returned (.tuple #[.agg #[.slice none 0 0, .int .i64 0, .slice none 0 0], .int .i64 E]) ∧ Below w.heap.size w w' := by
  have hz := Blk.new w 74 #[.slice none 0 0, .int .i64 0, .slice none 0 0]
  have hB : Below w.heap.size w (w.alloc (.cells #[.slice none 0 0, .int .i64 0, .slice none 0 0] 74)) := (Below.refl _ _).alloc (Nat.le_refl _) _
  unfold newE at hE
  replace hz := Lib.hid hz
  by_cases h1 : b < 1 ∨ 16 < b
  · rw [if_pos h1] at hE
    subst hE
    rcases h1 with h1 | h1
    · go_enter Try.func39, Try.ntmps39
      go_wp2
      refine bodyPost_ret (results_cell_row_tmp rfl _ _ w.heap.size 74 _ (0, 0) _ rfl hz.out Try.underlying74 rfl (by kernel_rfl)) rfl ?_
      exact ⟨rfl, hB⟩
    · have h2 : ¬ b < 1 := by omega
      go_enter Try.func39, Try.ntmps39
      go_wp2
      refine bodyPost_ret (results_cell_row_tmp rfl _ _ w.heap.size 74 _ (0, 0) _ rfl hz.out Try.underlying74 rfl (by kernel_rfl)) rfl ?_
      exact ⟨rfl, hB⟩
  · rw [if_neg h1] at hE
    have u1 : ¬ b < 1 := by omega
    have u2 : ¬ 16 < b := by omega
    clear h1
    by_cases h2 : wd < 1 ∨ 16 < wd
    · rw [if_pos h2] at hE
      subst hE
      have hw := rwidth_no wd h2 hb.1 hb.2 (w.alloc (.cells #[.slice none 0 0, .int .i64 0, .slice none 0 0] 74))
      replace hw := Lib.hid hw
      clear h2 hb
      go_enter Try.func39, Try.ntmps39
      go_wp2_with (go_at_call 49; (with_reducible refine hw.out.mono ?_); rintro e w' ⟨rfl, hww⟩; cases hww)
      refine bodyPost_ret (results_cell_row_tmp rfl _ _ w.heap.size 74 _ (0, 0) _ rfl hz.out Try.underlying74 rfl (by kernel_rfl)) rfl ?_
      exact ⟨rfl, hB⟩
    · rw [if_neg h2] at hE
      have hw := rwidth_yes wd (by omega) (by omega) (w.alloc (.cells #[.slice none 0 0, .int .i64 0, .slice none 0 0] 74))
      replace hw := Lib.hid hw
      by_cases h3 : b < n
      · rw [if_pos h3] at hE
        subst hE
        clear h2 hb
        go_enter Try.func39, Try.ntmps39
        go_wp2_with (go_at_call 49; (with_reducible refine hw.out.mono ?_); rintro e w' ⟨rfl, hww⟩; cases hww)
        refine bodyPost_ret (results_cell_row_tmp rfl _ _ w.heap.size 74 _ (0, 0) _ rfl hz.out Try.underlying74 rfl (by kernel_rfl)) rfl ?_
        exact ⟨rfl, hB⟩
      · rw [if_neg h3] at hE
        exact absurd hE.symm h
theorem made_zero3 (b : Nat) : madeCells #[Value.int .i64 0] b = ((newWs [] 0 b 0).map (Value.int .i64)).toArray := by
  apply Array.ext'
  apply List.ext_getElem
  · simp [newWs, madeCells]
  · intro i h1 h2
    simp [newWs, madeCells, Nat.mod_one]
/-- While the first words are cut. -/
def NewAt (w : World) (b : Nat) (wd : Int) (l : List Int) (k : Nat) (wr : World) : Prop := Blk wr (w.heap.size + 1) 3 ((newWs l wd b k).map (Value.int .i64)).toArray ∧ Blk wr (w.heap.size + 1 + 1) 74 #[.slice (some ⟨w.heap.size + 1, 0, none⟩) b b, .int .i64 wd, .slice none 0 0] ∧ Blk wr w.heap.size 74 #[.slice none 0 0, .int .i64 0, .slice none 0 0] ∧ Below w.heap.size w wr
set_option maxRecDepth 100000 in
theorem rnew_ok {w : World} (fp : List Nat) (hfp : ∀ k ∈ fp, k < w.heap.size) (b : Nat) (wd : Int) (A : Option Addr) (n c B : Nat) (l : List Int) (hrd : Reads w B 1 A n (l.map (Value.int .i64))) (hB : B ≤ w.heap.size) (b1 : 1 ≤ b) (b2 : b ≤ 16) (w1 : 1 ≤ wd) (w2 : wd ≤ 16) (hn : n ≤ b) (hl : ∀ x ∈ l, 0 ≤ x ∧ x ≤ 4294967295) :
    Calls Try.prog 39 #[.int .i64 b, .int .i64 wd, .slice A n c] w fun e w' => ∃ v', e = .returned (.tuple #[v', .int .i64 0]) ∧ RfX fp w' v' (mkD wd b l) [] ∧ Below w.heap.size w w' := by
  have hmk := run_make_row' (P := Try.prog) 41 3 (.int .i64 0) 8 Try.underlying41 info3 rfl .i64 .i64 b (by omega) (by omega)
  have b1' : 1 ≤ (b : Int) := by omega
  have b2' : (b : Int) ≤ 16 := by omega
  have hnb : ¬ (b : Int) < n := by omega
  have hnb2 : decide (b < n) = false := by simp; omega
  have hw := rwidth_yes wd w1 w2 (w.alloc (.cells #[.slice none 0 0, .int .i64 0, .slice none 0 0] 74))
  have hll : l.length = n := by have := hrd.1; simpa using this
  replace hw := Lib.hid hw
  replace hfp := Lib.hid hfp
  go_enter Try.func39, Try.ntmps39
  go_wp2_with (go_at_call 49; (with_reducible refine hw.out.mono ?_); rintro e w' ⟨rfl, hww⟩; cases hww)
  clear hmk hnb2
  have hN0 : NewAt w b wd l 0 (((w.alloc (.cells #[.slice none 0 0, .int .i64 0, .slice none 0 0] 74)).alloc (.cells (madeCells #[.int .i64 0] b) 3)).alloc (.cells #[.slice (some ⟨w.heap.size + 1, 0, none⟩) b b, .int .i64 wd, .slice none 0 0] 74)) := by
    have g0 := (Blk.new (w.alloc (.cells #[.slice none 0 0, .int .i64 0, .slice none 0 0] 74)) 3 (madeCells #[.int .i64 0] b)).alloc (.cells #[.slice (some ⟨w.heap.size + 1, 0, none⟩) b b, .int .i64 wd, .slice none 0 0] 74)
    have p0 := Blk.new ((w.alloc (.cells #[.slice none 0 0, .int .i64 0, .slice none 0 0] 74)).alloc (.cells (madeCells #[.int .i64 0] b) 3)) 74 #[.slice (some ⟨w.heap.size + 1, 0, none⟩) b b, .int .i64 wd, .slice none 0 0]
    have z0 := ((Blk.new w 74 #[.slice none 0 0, .int .i64 0, .slice none 0 0]).alloc (.cells (madeCells #[.int .i64 0] b) 3)).alloc (.cells #[.slice (some ⟨w.heap.size + 1, 0, none⟩) b b, .int .i64 wd, .slice none 0 0] 74)
    rw [World.size_alloc] at g0
    rw [World.size_alloc, World.size_alloc] at p0
    refine ⟨?_, p0, z0, (((Below.refl _ _).alloc (Nat.le_refl _) _).alloc (by simp) _).alloc (by simp; omega) _⟩
    rw [made_zero3] at g0 ⊢
    simpa [newWs] using g0
  generalize (((w.alloc (.cells #[.slice none 0 0, .int .i64 0, .slice none 0 0] 74)).alloc (.cells (madeCells #[.int .i64 0] b) 3)).alloc (.cells #[.slice (some ⟨w.heap.size + 1, 0, none⟩) b b, .int .i64 wd, .slice none 0 0] 74)) = W at *
  go_loopw [9] (fun i wr => ∃ k : Nat, k ≤ n ∧ i = .int .i64 k ∧ NewAt w b wd l k wr) (fun i _ => n - (intOf i).toNat)
  case atStart => exact ⟨0, by omega, rfl, hN0⟩
  case round =>
    obtain ⟨k, hk, rfl, g0, p0, z0, B0⟩ := hrel
    clear hN0 hw
    clear W
    have d0 := p0.cell 0
    have d1 := p0.cell 1
    have d2 := p0.cell 2
    simp only [List.getElem?_toArray, List.getElem?_cons_succ, List.getElem?_cons_zero] at d0 d1 d2
    by_cases hlt : k < n
    · obtain ⟨ad, rfl, q1⟩ := reads_word (hrd.below (B0.mono hB)) hlt
      have hx := hl (l[k]?.getD 0) (by rw [List.getElem?_eq_getElem (by omega)]; exact List.getElem_mem (by omega))
      have hst := newWs_step l wd b k (by omega) (by omega)
      have hlen := newWs_len l wd b k (by omega) (by omega)
      generalize l[k]?.getD 0 = x at q1 hx hst
      obtain ⟨hx0, hx1⟩ := hx
      have hk0 : (0 : Int) ≤ (k : Int) := by omega
      have hk1 : (k : Int) < (n : Int) := by omega
      have hk2 : (k : Int) < (b : Int) := by omega
      have hcell : wr.cell? ⟨w.heap.size + 1, k, none⟩ = some (.int .i64 ((newWs l wd b k)[k]?.getD 0)) := by
        rw [g0.cell k]; simp [show k < (newWs l wd b k).length by omega]
      have hfz := g0.frozen k
      have gset := g0.set_ k (.int .i64 (cutW x wd))
      rw [List.setIfInBounds_toArray, ← List.map_set, hst] at gset
      have hnext : NewAt w b wd l (k + 1) (wr.setCell ⟨w.heap.size + 1, k, none⟩ (.int .i64 (cutW x wd))) :=
        ⟨gset, p0.far (p := ⟨w.heap.size + 1, k, none⟩) (by show w.heap.size + 1 + 1 ≠ w.heap.size + 1; omega) _, z0.far (p := ⟨w.heap.size + 1, k, none⟩) (by show w.heap.size ≠ w.heap.size + 1; omega) _, B0.setCell (p := ⟨w.heap.size + 1, k, none⟩) (Nat.le_succ _) _⟩
      generalize (newWs l wd b k)[k]?.getD 0 = old at hcell
      have hlb := g0.lt
      have hcu := rcut_ok x wd w1 w2 hx0 (by omega) wr.drew
      clear hst hlen gset
      replace hnext := Lib.hid hnext
      replace hcu := Lib.hid hcu
      replace hll := Lib.hid hll
      go_wp2_with fail
      go_region_law (first
        | (go_simp; go_at_call 50; (with_reducible refine hcu.out.mono ?_); rintro e w' ⟨rfl, rfl⟩))
      all_goals
        go_wp2_with fail
        go_roundw
        case rel => first | exact ⟨k + 1, by omega, by go_num, hnext.out.1.drew, hnext.out.2.1.drew, hnext.out.2.2.1.drew, below_dr hnext.out.2.2.2⟩ | ((repeat apply Exists.intro); exact ⟨⟨k + 1, by omega, by go_num, hnext.out.1.drew, hnext.out.2.1.drew, hnext.out.2.2.1.drew, below_dr hnext.out.2.2.2⟩, rfl⟩)
        case measure => simp [intOf]; omega
    · obtain rfl : k = n := by omega
      have hlen := newWs_len l wd b k (by omega) (by omega)
      have e0 := z0.cell 0
      have e1 := z0.cell 1
      have e2 := z0.cell 2
      have f0 := z0.frozen 0
      have f1 := z0.frozen 1
      have f2 := z0.frozen 2
      simp only [List.getElem?_toArray, List.getElem?_cons_succ, List.getElem?_cons_zero] at e0 e1 e2
      clear hrd
      go_wp2_with fail
      have hf := ((z0.set_ 0 (.slice (some ⟨w.heap.size + 1, 0, none⟩) b b)).set_ 1 (.int .i64 wd)).set_ 2 (.slice none 0 0)
      have hO : Only [w.heap.size] wr (((wr.setCell ⟨w.heap.size, 0, none⟩ (.slice (some ⟨w.heap.size + 1, 0, none⟩) b b)).setCell ⟨w.heap.size, 1, none⟩ (.int .i64 wd)).setCell ⟨w.heap.size, 2, none⟩ (.slice none 0 0)) :=
        (((Only.refl _ wr).setCell (.inl (by simp)) _).setCell (.inl (by simp)) _).setCell (.inl (by simp)) _
      have hB9 := B0.trans (hO.below B0.size (fun i hi => by have := List.mem_singleton.1 hi; omega))
      have hg9 := g0.only hO (by simp)
      have hown := own_of_blk (b := b) (n' := b) hg9 (show w.heap.size ≤ w.heap.size + 1 by omega) (by simp [hlen]) rfl (by omega)
      have hws : (mkD wd b l).ws = newWs l wd b k := by rw [← hll, newWs_done]; rfl
      have hwl : (mkD wd b l).ws.length = b := by rw [hws]; exact hlen
      refine bodyPost_ret (results_cell_row_tmp rfl _ _ w.heap.size 74 _ (0, 0) _ rfl hf Try.underlying74 rfl (by kernel_rfl)) rfl ?_
      refine ⟨_, rfl, fun W2 ho => ⟨some ⟨w.heap.size + 1, 0, none⟩, b, none, 0, ?_, ?_, ?_, by omega, by omega, by simp, by omega⟩, hB9⟩
      · rw [hwl]; simp [mkD]
      · rw [hws, hlen]
        have := Reads.of_own (own_only hown ho (fun i hi hm => by have := hfp.out i hm; have := own_ge hown i hi; omega))
        simpa [hlen] using this
      · simpa [encRs] using (Reads.none_ : Reads W2 W2.heap.size 3 none 0 [])
end Go.Proofs.Ythhchccjpgpibaa
