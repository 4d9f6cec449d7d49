/- Disks: the reference: Barrier, Flush, Write. -/
import Derived.Test.YthhchccjpgpibaaDiskZ
namespace Go.Proofs.Ythhchccjpgpibaa
open Go Go.RowKit Go.Shelf
set_option linter.unusedVariables false
set_option linter.unusedSimpArgs false
set_option maxHeartbeats 4000000
/-- The answer is kept in its cell. -/
theorem rf_close {w W : World} {fp : List Nat} {D0 : Dst} {l : List RAct} {Af Ad : Option Addr} {cf cd n : Nat} (hX : RfX ((w.heap.size + 1) :: fp) W (.agg #[.slice Af D0.ws.length cf, .int .i64 D0.wd, .slice Ad n cd]) D0 l) (hz : Blk W (w.heap.size + 1) 74 #[.slice none 0 0, .int .i64 0, .slice none 0 0]) (hB : Below w.heap.size w W) {w9 : World} (e9 : w9 = ((W.setCell ⟨w.heap.size + 1, 0, none⟩ (.slice Af D0.ws.length cf)).setCell ⟨w.heap.size + 1, 1, none⟩ (.int .i64 D0.wd)).setCell ⟨w.heap.size + 1, 2, none⟩ (.slice Ad n cd)) :
    w9.heap[w.heap.size + 1]? = some (.cells #[.slice Af D0.ws.length cf, .int .i64 D0.wd, .slice Ad n cd] 74 (0, 0)) ∧ RfX fp w9 (.agg #[.slice Af D0.ws.length cf, .int .i64 D0.wd, .slice Ad n cd]) D0 l ∧ Below w.heap.size w w9 := by
  have hf := ((hz.set_ 0 (.slice Af D0.ws.length cf)).set_ 1 (.int .i64 D0.wd)).set_ 2 (.slice Ad n cd)
  have hO : Only [w.heap.size + 1] W w9 := by
    subst e9
    exact (((Only.refl _ W).setCell (.inl (by simp)) _).setCell (.inl (by simp)) _).setCell (.inl (by simp)) _
  have hB9 := hB.trans (hO.below hB.size (fun i hi => by have := List.mem_singleton.1 hi; omega))
  rw [← e9] at hf
  exact ⟨hf, (hX.only (hO.more (fun k hk _ => by rw [List.mem_singleton.1 hk]; exact List.mem_cons_self))).less (fun k hk _ => List.mem_cons_of_mem _ hk), hB9⟩
theorem RfX.cons {w W : World} {fp : List Nat} {v : Value} {D0 : Dst} {l : List RAct} (h : RfX fp w v D0 l) (hb : Below w.heap.size w W) : RfX ((w.heap.size + 1) :: fp) W v D0 l :=
  (h.less (fq := (w.heap.size + 1) :: fp) (fun k hk hl => by
    rcases List.mem_cons.1 hk with rfl | hk
    · omega
    · exact hk)).new hb
theorem RfX.shape {w : World} {fp : List Nat} {v : Value} {D0 : Dst} {l : List RAct} (h : RfX fp w v D0 l) : ∃ Af cf Ad cd, v = .agg #[.slice Af D0.ws.length cf, .int .i64 D0.wd, .slice Ad l.length cd] := by
  obtain ⟨Af, cf, Ad, cd, e, _⟩ := h.ref
  exact ⟨_, _, _, _, e⟩
set_option maxRecDepth 100000 in
theorem rflush {w : World} {v : Value} {D0 : Dst} {l : List RAct} {fp : List Nat} (hX : RfX fp w v D0 l) (hfp : ∀ k ∈ fp, k < w.heap.size) (hl : RI D0 l) : Calls Try.prog 41 #[v] w fun e w' => ∃ v', e = .returned v' ∧ RfX fp w' v' D0 (l ++ [(3, 0, 0)]) ∧ Below w.heap.size w w' := by
  obtain ⟨Af, cf, Ad, cd, rfl, hF, hA, k1, k2, k3, k4⟩ := hX.ref
  have hB0 : Below w.heap.size w ((w.alloc (.cells #[.slice Af D0.ws.length cf, .int .i64 D0.wd, .slice Ad l.length cd] 74)).alloc (.cells #[.slice none 0 0, .int .i64 0, .slice none 0 0] 74)) := ((Below.refl _ _).alloc (Nat.le_refl _) _).alloc (by simp) _
  have hb := (Blk.new w 74 #[.slice Af D0.ws.length cf, .int .i64 D0.wd, .slice Ad l.length cd]).alloc (.cells #[.slice none 0 0, .int .i64 0, .slice none 0 0] 74)
  have hz := Blk.new (w.alloc (.cells #[.slice Af D0.ws.length cf, .int .i64 D0.wd, .slice Ad l.length cd] 74)) 74 #[.slice none 0 0, .int .i64 0, .slice none 0 0]
  rw [World.size_alloc] at hz
  have hD : D0.es = [] ∧ D0.ep = 0 := ⟨hl.es, hl.ep⟩
  have b0 := hb.cell 0
  have b1 := hb.cell 1
  have b2 := hb.cell 2
  simp only [List.getElem?_toArray, List.getElem?_cons_succ, List.getElem?_cons_zero] at b0 b1 b2
  have hfew := hl.few
  have h52 := rdo (hX.cons hB0) (fun k hk => by
    rcases List.mem_cons.1 hk with rfl | hk
    · exact hz.lt
    · have := hfp k hk; have := hB0.size; omega) hfew 3 0 0
  replace h52 := Lib.hid h52
  replace hX := Lib.hid hX
  replace hfp := Lib.hid hfp
  clear hF hA k1 k2 k3 k4 hD hl
  go_enter Try.func41, Try.ntmps41
  go_wp2_with fail
  generalize ((w.alloc (.cells #[.slice Af D0.ws.length cf, .int .i64 D0.wd, .slice Ad l.length cd] 74)).alloc (.cells #[.slice none 0 0, .int .i64 0, .slice none 0 0] 74)) = W0 at *
  go_wp2_with (go_at_call 52; (with_reducible refine h52.out.mono ?_); rintro e W6 ⟨v6, rfl, hX6, hB6⟩; obtain ⟨A6, c6, A7, c7, rfl⟩ := hX6.shape; rw [show (l ++ [((3 : Int), (0 : Int), (0 : Int))]).length = l.length + 1 from by simp] at hX6 ⊢; have hz6 := hz.below hB6 hz.lt; have e0 := hz6.cell 0; have e1 := hz6.cell 1; have e2 := hz6.cell 2; have g0 := hz6.frozen 0; have g1 := hz6.frozen 1; have g2 := hz6.frozen 2; simp only [List.getElem?_toArray, List.getElem?_cons_succ, List.getElem?_cons_zero] at e0 e1 e2)
  obtain ⟨hf, hR, hB9⟩ := rf_close hX6 hz6 (below_and hB0 hB6) rfl
  refine bodyPost_ret (results_cell_row rfl _ _ (w.heap.size + 1) 74 _ (0, 0) _ rfl hf Try.underlying74 rfl (by kernel_rfl)) rfl ?_
  exact ⟨_, rfl, hR, hB9⟩
set_option maxRecDepth 100000 in
theorem rbarrier {w : World} {v : Value} {D0 : Dst} {l : List RAct} {fp : List Nat} (hX : RfX fp w v D0 l) (hfp : ∀ k ∈ fp, k < w.heap.size) (hl : RI D0 l) : Calls Try.prog 40 #[v] w fun e w' => ∃ v', e = .returned (.tuple #[v', .int .i64 0]) ∧ RfX fp w' v' D0 (l ++ [(2, 0, 0)]) ∧ Below w.heap.size w w' := by
  obtain ⟨Af, cf, Ad, cd, rfl, hF, hA, k1, k2, k3, k4⟩ := hX.ref
  have hB0 : Below w.heap.size w ((w.alloc (.cells #[.slice Af D0.ws.length cf, .int .i64 D0.wd, .slice Ad l.length cd] 74)).alloc (.cells #[.slice none 0 0, .int .i64 0, .slice none 0 0] 74)) := ((Below.refl _ _).alloc (Nat.le_refl _) _).alloc (by simp) _
  have hb := (Blk.new w 74 #[.slice Af D0.ws.length cf, .int .i64 D0.wd, .slice Ad l.length cd]).alloc (.cells #[.slice none 0 0, .int .i64 0, .slice none 0 0] 74)
  have hz := Blk.new (w.alloc (.cells #[.slice Af D0.ws.length cf, .int .i64 D0.wd, .slice Ad l.length cd] 74)) 74 #[.slice none 0 0, .int .i64 0, .slice none 0 0]
  rw [World.size_alloc] at hz
  have hD : D0.es = [] ∧ D0.ep = 0 := ⟨hl.es, hl.ep⟩
  have b0 := hb.cell 0
  have b1 := hb.cell 1
  have b2 := hb.cell 2
  simp only [List.getElem?_toArray, List.getElem?_cons_succ, List.getElem?_cons_zero] at b0 b1 b2
  have hfew := hl.few
  have hrl := run_len D0 hD l
  have h51 := rcache (hX.ref.new hB0) hl
  have h52 := fun W (hW : Below ((w.alloc (.cells #[.slice Af D0.ws.length cf, .int .i64 D0.wd, .slice Ad l.length cd] 74)).alloc (.cells #[.slice none 0 0, .int .i64 0, .slice none 0 0] 74)).heap.size ((w.alloc (.cells #[.slice Af D0.ws.length cf, .int .i64 D0.wd, .slice Ad l.length cd] 74)).alloc (.cells #[.slice none 0 0, .int .i64 0, .slice none 0 0] 74)) W) => rdo ((hX.cons hB0).new hW) (fun k hk => by
    rcases List.mem_cons.1 hk with rfl | hk
    · have := hz.lt; have := hW.size; omega
    · have := hfp k hk; have := hB0.size; have := hW.size; omega) hfew 2 0 0
  obtain ⟨ep, hep⟩ : ∃ ep, (runR D0 l).ep = ep := ⟨_, rfl⟩
  rw [hep] at h51 hrl
  have hb4 : (ep == 4096) = false := by simp; omega
  replace h51 := Lib.hid h51
  replace h52 := Lib.hid h52
  replace hX := Lib.hid hX
  replace hfp := Lib.hid hfp
  clear hF hA k1 k2 k3 k4 hD hl hep hrl
  go_enter Try.func40, Try.ntmps40
  go_wp2_with fail
  generalize ((w.alloc (.cells #[.slice Af D0.ws.length cf, .int .i64 D0.wd, .slice Ad l.length cd] 74)).alloc (.cells #[.slice none 0 0, .int .i64 0, .slice none 0 0] 74)) = W0 at *
  go_wp2_with (first
    | (go_at_call 51; (with_reducible refine h51.out.mono ?_); rintro e W5 ⟨A5, c5, rfl, _, hB5⟩; have hb5 := hb.below hB5 hb.lt; clear b0 b1 b2; have b0 := hb5.cell 0; have b1 := hb5.cell 1; have b2 := hb5.cell 2; simp only [List.getElem?_toArray, List.getElem?_cons_succ, List.getElem?_cons_zero] at b0 b1 b2; have h52w := h52.out _ hB5; replace h52w := Lib.hid h52w)
    | (go_at_call 52; (with_reducible refine h52w.out.mono ?_); rintro e W6 ⟨v6, rfl, hX6, hB6⟩; obtain ⟨A6, c6, A7, c7, rfl⟩ := hX6.shape; rw [show (l ++ [((2 : Int), (0 : Int), (0 : Int))]).length = l.length + 1 from by simp] at hX6 ⊢; have hz6 := (hz.below hB5 hz.lt).below hB6 (hz.below hB5 hz.lt).lt; have e0 := hz6.cell 0; have e1 := hz6.cell 1; have e2 := hz6.cell 2; have g0 := hz6.frozen 0; have g1 := hz6.frozen 1; have g2 := hz6.frozen 2; simp only [List.getElem?_toArray, List.getElem?_cons_succ, List.getElem?_cons_zero] at e0 e1 e2))
  obtain ⟨hf, hR, hB9⟩ := rf_close hX6 hz6 (below_and (below_and hB0 hB5) hB6) rfl
  refine bodyPost_ret (results_cell_row_tmp rfl _ _ (w.heap.size + 1) 74 _ (0, 0) _ rfl hf Try.underlying74 rfl (by kernel_rfl)) rfl ?_
  exact ⟨_, rfl, hR, hB9⟩
/-- What Write does. -/
def wrL (D0 : Dst) (l : List RAct) (b x : Int) : List RAct := if 0 ≤ b ∧ b < D0.ws.length then l ++ [(1, b, cutW x D0.wd)] else l
set_option maxRecDepth 100000 in
theorem rwrite {w : World} {v : Value} {D0 : Dst} {l : List RAct} {fp : List Nat} (hX : RfX fp w v D0 l) (hfp : ∀ k ∈ fp, k < w.heap.size) (hl : RI D0 l) (b x : Int) (hx0 : 0 ≤ x) (hx1 : x ≤ 4294967295) : Calls Try.prog 43 #[v, .int .i64 b, .int .i64 x] w fun e w' => ∃ v', e = .returned (.tuple #[v', .bool (decide (0 ≤ b ∧ b < D0.ws.length)), .int .i64 0]) ∧ RfX fp w' v' D0 (wrL D0 l b x) ∧ Below w.heap.size w w' := by
  obtain ⟨Af, cf, Ad, cd, rfl, hF, hA, k1, k2, k3, k4⟩ := hX.ref
  have hB0 : Below w.heap.size w ((w.alloc (.cells #[.slice Af D0.ws.length cf, .int .i64 D0.wd, .slice Ad l.length cd] 74)).alloc (.cells #[.slice none 0 0, .int .i64 0, .slice none 0 0] 74)) := ((Below.refl _ _).alloc (Nat.le_refl _) _).alloc (by simp) _
  have hb := (Blk.new w 74 #[.slice Af D0.ws.length cf, .int .i64 D0.wd, .slice Ad l.length cd]).alloc (.cells #[.slice none 0 0, .int .i64 0, .slice none 0 0] 74)
  have hz := Blk.new (w.alloc (.cells #[.slice Af D0.ws.length cf, .int .i64 D0.wd, .slice Ad l.length cd] 74)) 74 #[.slice none 0 0, .int .i64 0, .slice none 0 0]
  rw [World.size_alloc] at hz
  have hD : D0.es = [] ∧ D0.ep = 0 := ⟨hl.es, hl.ep⟩
  have b0 := hb.cell 0
  have b1 := hb.cell 1
  have b2 := hb.cell 2
  simp only [List.getElem?_toArray, List.getElem?_cons_succ, List.getElem?_cons_zero] at b0 b1 b2
  have e0 := hz.cell 0
  have e1 := hz.cell 1
  have e2 := hz.cell 2
  simp only [List.getElem?_toArray, List.getElem?_cons_succ, List.getElem?_cons_zero] at e0 e1 e2
  have g0 := hz.frozen 0
  have g1 := hz.frozen 1
  have g2 := hz.frozen 2
  have hfew := hl.few
  by_cases hin : 0 ≤ b ∧ b < D0.ws.length
  · have hd : decide (0 ≤ b ∧ b < D0.ws.length) = true := by simp [hin]
    obtain ⟨cx, hcx⟩ : ∃ cx, cutW x D0.wd = cx := ⟨_, rfl⟩
    have hwl : wrL D0 l b x = l ++ [(1, b, cx)] := by rw [← hcx]; exact if_pos hin
    rw [hd, hwl]
    obtain ⟨hb1, hb2⟩ := hin
    have t1 : ¬ b < 0 := by omega
    have t2 : ¬ (D0.ws.length : Int) ≤ b := by omega
    have hrl := run_len D0 hD l
    have h51 := rcache (hX.ref.new hB0) hl
    obtain ⟨ne, hne⟩ : ∃ ne, (runR D0 l).es.length = ne := ⟨_, rfl⟩
    rw [hne] at h51 hrl
    have hb4 : ((ne : Int) == 4096) = false := by simp; omega
    have hcu : ∀ W, Calls Try.prog 50 #[.int .i64 x, .int .i64 D0.wd] W fun e w' => e = .returned (.int .i64 cx) ∧ W = w' := fun W => hcx ▸ rcut_ok x D0.wd hl.w1 hl.w2 hx0 (by omega) W
    have h52 := fun W (hW : Below ((w.alloc (.cells #[.slice Af D0.ws.length cf, .int .i64 D0.wd, .slice Ad l.length cd] 74)).alloc (.cells #[.slice none 0 0, .int .i64 0, .slice none 0 0] 74)).heap.size ((w.alloc (.cells #[.slice Af D0.ws.length cf, .int .i64 D0.wd, .slice Ad l.length cd] 74)).alloc (.cells #[.slice none 0 0, .int .i64 0, .slice none 0 0] 74)) W) => rdo ((hX.cons hB0).new hW) (fun k hk => by
      rcases List.mem_cons.1 hk with rfl | hk
      · have := hz.lt; have := hW.size; omega
      · have := hfp k hk; have := hB0.size; have := hW.size; omega) hfew 1 b cx
    replace h51 := Lib.hid h51
    replace h52 := Lib.hid h52
    replace hcu := Lib.hid hcu
    replace hX := Lib.hid hX
    replace hfp := Lib.hid hfp
    clear hF hA k1 k2 k3 k4 hD hl hne hrl hd hwl hcx e0 e1 e2 g0 g1 g2
    go_enter Try.func43, Try.ntmps43
    go_wp2_with fail
    generalize ((w.alloc (.cells #[.slice Af D0.ws.length cf, .int .i64 D0.wd, .slice Ad l.length cd] 74)).alloc (.cells #[.slice none 0 0, .int .i64 0, .slice none 0 0] 74)) = W0 at *
    go_wp2_with (go_at_call 51; (with_reducible refine h51.out.mono ?_); rintro e W5 ⟨A5, c5, rfl, _, hB5⟩; have hb5 := hb.below hB5 hb.lt; have hz5 := hz.below hB5 hz.lt; clear b0 b1 b2; have b0 := hb5.cell 0; have b1 := hb5.cell 1; have b2 := hb5.cell 2; simp only [List.getElem?_toArray, List.getElem?_cons_succ, List.getElem?_cons_zero] at b0 b1 b2; have h52w := h52.out W5.drew (below_dr hB5); replace h52w := Lib.hid h52w; have hcw := hcu.out W5.drew; replace hcw := Lib.hid hcw)
    go_region_law (first
      | (go_simp; go_at_call 50; (with_reducible refine hcw.out.mono ?_); rintro e w' ⟨rfl, rfl⟩)
      | (go_simp; go_at_call 52; (with_reducible refine h52w.out.mono ?_); rintro e W6 ⟨v6, rfl, hX6, hB6⟩; obtain ⟨A6, c6, A7, c7, rfl⟩ := hX6.shape; rw [show (l ++ [((1 : Int), b, cx)]).length = l.length + 1 from by simp] at hX6 ⊢; have hB6' : Below W5.heap.size W5 W6 := ⟨hB6.os, hB6.tape, hB6.output, hB6.size, hB6.block⟩; have hz6 := hz5.below hB6' hz5.lt; have e0 := hz6.cell 0; have e1 := hz6.cell 1; have e2 := hz6.cell 2; have g0 := hz6.frozen 0; have g1 := hz6.frozen 1; have g2 := hz6.frozen 2; simp only [List.getElem?_toArray, List.getElem?_cons_succ, List.getElem?_cons_zero] at e0 e1 e2))
    all_goals
      go_wp2_with fail
      obtain ⟨hf, hR, hB9⟩ := rf_close hX6 hz6 (below_and (below_and hB0 hB5) hB6') rfl
      refine bodyPost_ret (results_cell_row_tmp2 rfl _ _ (w.heap.size + 1) 74 _ (0, 0) _ rfl hf Try.underlying74 rfl (by kernel_rfl)) rfl ?_
      exact ⟨_, rfl, hR, hB9⟩
  · have hd : decide (0 ≤ b ∧ b < D0.ws.length) = false := by simp only [decide_eq_false_iff_not]; exact hin
    have hwl : wrL D0 l b x = l := if_neg hin
    rw [hd, hwl]
    have hbb := Blk.new (w.alloc (.cells #[.slice Af D0.ws.length cf, .int .i64 D0.wd, .slice Ad l.length cd] 74)) 74 #[.slice Af D0.ws.length cf, .int .i64 D0.wd, .slice Ad l.length cd]
    rw [World.size_alloc] at hbb
    have hBb : Below w.heap.size w ((w.alloc (.cells #[.slice Af D0.ws.length cf, .int .i64 D0.wd, .slice Ad l.length cd] 74)).alloc (.cells #[.slice Af D0.ws.length cf, .int .i64 D0.wd, .slice Ad l.length cd] 74)) := ((Below.refl _ _).alloc (Nat.le_refl _) _).alloc (by simp) _
    have hXb := hX.new hBb
    replace hXb := Lib.hid hXb
    replace hbb := Lib.hid hbb
    clear hF hA k1 k2 k3 k4 hD hl hd hwl hX hb hz e0 e1 e2 b0 b1 b2 g0 g1 g2 hB0
    by_cases h1 : b < 0
    · clear hin
      go_enter Try.func43, Try.ntmps43
      go_wp2_with fail
      refine bodyPost_ret (results_cell_row_tmp2 rfl _ _ (w.heap.size + 1) 74 _ (0, 0) _ rfl hbb.out Try.underlying74 rfl (by kernel_rfl)) rfl ?_
      exact ⟨_, rfl, hXb.out, hBb⟩
    · have h2 : (D0.ws.length : Int) ≤ b := by omega
      clear hin
      go_enter Try.func43, Try.ntmps43
      go_wp2_with fail
      refine bodyPost_ret (results_cell_row_tmp2 rfl _ _ (w.heap.size + 1) 74 _ (0, 0) _ rfl hbb.out Try.underlying74 rfl (by kernel_rfl)) rfl ?_
      exact ⟨_, rfl, hXb.out, hBb⟩
end Go.Proofs.Ythhchccjpgpibaa
