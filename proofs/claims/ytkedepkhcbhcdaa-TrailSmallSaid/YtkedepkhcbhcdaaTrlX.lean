/- Trails: the reference: Push, Assign, Back. -/
import Derived.Test.YtkedepkhcbhcdaaTrlW
namespace Go.Proofs.Ytkedepkhcbhcdaa
open Go Go.RowKit Go.Shelf
set_option linter.unusedVariables false
set_option linter.unusedSimpArgs false
set_option maxHeartbeats 4000000
/-- A trail of the reference that stays as it is while the listed blocks change. -/
def RefX (fp : List Nat) (w : World) (v : Value) (D : Trl) : Prop := ∀ W', Only fp w W' → Ref W' v D
section
variable {fp fq : List Nat} {w W : World} {v : Value} {D : Trl}
theorem RefX.ref (h : RefX fp w v D) : Ref w v D := h w (Only.refl _ _)
theorem RefX.only (h : RefX fp w v D) (ho : Only fp w W) : RefX fp W v D := fun W' h' => h W' (ho.trans h')
theorem RefX.less (h : RefX fp w v D) (hs : ∀ k ∈ fq, k < w.heap.size → k ∈ fp) : RefX fq w v D := fun W' ho => h W' (ho.more hs)
theorem RefX.new (h : RefX fp w v D) (hb : Below w.heap.size w W) : RefX fp W v D := h.only (only_of_below _ hb)
theorem RefX.rows {a b : Value} {Ai As : Option Addr} {m k ci cs : Nat} (h : RefX fp w (.agg #[a, b, .slice Ai m ci, .slice As k cs]) D) (hb : Below w.heap.size w W) {W' : World} (ho : Only fp W W') : Reads W' W'.heap.size 3 Ai D.its.length (encIs D.its) ∧ Reads W' W'.heap.size 1 As D.st.length (litV (sts D)) := by
  obtain ⟨Ai', ci', As', cs', e, h1, h2, _⟩ := h W' ((only_of_below fp hb).trans ho)
  simp at e
  obtain ⟨_, _, ⟨rfl, _, _⟩, rfl, _, _⟩ := e
  exact ⟨h1, h2⟩
theorem own_ge {base : Nat} {e : TypeId} {size : Nat} {n : Nat} {xs : List Value} (h : w.ownsRow base e size v n xs) : ∀ k, v.ownBlock = some k → base ≤ k := by
  exact fun k hk => (h.lt k hk).1
end
theorem rnewX (n : Nat) (w : World) (fp : List Nat) (hfp : ∀ k ∈ fp, k < w.heap.size) : Calls Try.prog 42 #[.int .i64 (n : Int)] w fun e w' => ∃ v, e = .returned v ∧ RefX fp w' v (newT n) ∧ Below w.heap.size w w' := by
  go_enter Try.func42, Try.ntmps42
  go_wp2
  refine bodyPost_ret (results_cell_row rfl _ _ w.heap.size 82 _ (0, 0) _ rfl ((heap_alloc_old _ _ _ (by simp)).trans (heap_new _ _)) Try.underlying82 rfl (by kernel_rfl)) rfl ?_
  refine ⟨_, rfl, fun W2 ho => ⟨none, 0, some ⟨w.heap.size + 1, 0, none⟩, 1, rfl, Reads.none_, ?_, by simp [newT], by omega, by simp [newT], by omega⟩, ((Below.refl _ _).alloc (Nat.le_refl _) _).alloc (by simp) _⟩
  have h := Blk.new (w.alloc (.cells #[.int .i64 (n : Int), .int .i64 0, .slice none 0 0, .slice (some ⟨w.heap.size + 1, 0, none⟩) 1 1] 82)) 3 #[.int .i64 0]
  rw [World.size_alloc] at h
  exact Reads.of_own (own_only (own_all (base := w.heap.size) (b := 1) h (by omega) rfl rfl (by omega)) ho (fun k hk hm => by have := hfp k hm; simp [Value.ownBlock] at hk; omega))
theorem empty_row (W : World) (e : Nat) (size base : Nat) (h : base ≤ W.heap.size) : (W.alloc (.cells #[] e)).ownsRow base e size (.slice (some ⟨W.heap.size, 0, none⟩) 0 0) 0 [] :=
  own_all (b := 0) (Blk.new W e #[]) h rfl (by simp) (by omega)
/-- Behind the appends of Push. -/
def PushAt (w : World) (D : Trl) (Ai : Option Addr) (ci : Nat) (wx : World) : Prop := ∃ A9 c9, Blk wx w.heap.size 82 #[.int .i64 D.n, .int .i64 D.st.length, .slice Ai D.its.length ci, .slice A9 (D.st.length + 1) c9] ∧
  Blk wx (w.heap.size + 1) 82 #[.int .i64 0, .int .i64 0, .slice none 0 0, .slice none 0 0] ∧ wx.ownsRow w.heap.size 3 1 (.slice A9 (D.st.length + 1) c9) (D.st.length + 1) (litV (sts D ++ [(D.its.length : Int)])) ∧ Below w.heap.size w wx
theorem below_dr {B : Nat} {w w' : World} (h : Below B w w') : Below B w w'.drew := ⟨h.os, h.tape, h.output, h.size, h.block⟩
theorem one_litV (l : List Int) : ∀ u ∈ litV l, u.oneCell' = true := by
  intro u hu
  obtain ⟨x, _, rfl⟩ := List.mem_map.1 hu
  rfl
set_option maxRecDepth 100000 in
theorem rpush {w : World} {v : Value} {D : Trl} {fp : List Nat} (hX : RefX fp w v D) (hfp : ∀ k ∈ fp, k < w.heap.size) (hst : D.st.length ≤ 1000) (hits : D.its.length ≤ 1000) : Calls Try.prog 44 #[v] w fun e w' => ∃ v', e = .returned v' ∧ RefX fp w' v' (psh D) ∧ Below w.heap.size w w' := by
  obtain ⟨Ai, ci, As, cs, rfl, hI, hS, k1, k2, k3, k4⟩ := hX.ref
  replace hX := Lib.hid hX
  replace hfp := Lib.hid hfp
  obtain ⟨j0, hj, hj0, hj1, hj2⟩ := info_parts info3
  have s1 : (D.st.length : Int) ≤ 1000 := by omega
  have s2 : (D.its.length : Int) ≤ 1000 := by omega
  go_enter Try.func44, Try.ntmps44
  go_wp2_with fail
  go_upto_region 2 with (fail)
  have hb := (Blk.new w 82 #[.int .i64 D.n, .int .i64 D.st.length, .slice Ai D.its.length ci, .slice As D.st.length cs]).alloc (.cells #[.int .i64 0, .int .i64 0, .slice none 0 0, .slice none 0 0] 82)
  have hb2 := Blk.new (w.alloc (.cells #[.int .i64 D.n, .int .i64 D.st.length, .slice Ai D.its.length ci, .slice As D.st.length cs] 82)) 82 #[.int .i64 0, .int .i64 0, .slice none 0 0, .slice none 0 0]
  rw [World.size_alloc] at hb2
  have hB0 : Below w.heap.size w ((w.alloc (.cells #[.int .i64 D.n, .int .i64 D.st.length, .slice Ai D.its.length ci, .slice As D.st.length cs] 82)).alloc (.cells #[.int .i64 0, .int .i64 0, .slice none 0 0, .slice none 0 0] 82)) := ((Below.refl _ _).alloc (Nat.le_refl _) _).alloc (by simp) _
  have hsz0 : ((w.alloc (.cells #[.int .i64 D.n, .int .i64 D.st.length, .slice Ai D.its.length ci, .slice As D.st.length cs] 82)).alloc (.cells #[.int .i64 0, .int .i64 0, .slice none 0 0, .slice none 0 0] 82)).heap.size = w.heap.size + 2 := by simp
  generalize (w.alloc (.cells #[.int .i64 D.n, .int .i64 D.st.length, .slice Ai D.its.length ci, .slice As D.st.length cs] 82)).alloc (.cells #[.int .i64 0, .int .i64 0, .slice none 0 0, .slice none 0 0] 82) = W0 at *
  have hBd : Below w.heap.size w W0.drew := ⟨hB0.os, hB0.tape, hB0.output, hB0.size, hB0.block⟩
  have hlen : (sts D).length = D.st.length := by simp [sts]
  have b2 := hb.cell 2
  have b3 := hb.cell 3
  simp only [List.getElem?_toArray, List.getElem?_cons_succ, List.getElem?_cons_zero] at b2 b3
  have hsd : W0.drew.heap.size = w.heap.size + 2 := hsz0
  have hlt1 : w.heap.size < W0.heap.size := by omega
  have hlt2 : w.heap.size + 1 < W0.heap.size := by omega
  have hAl1 : Below w.heap.size w (W0.alloc (.cells #[] 3)).drew := below_dr (hB0.alloc (by omega) _)
  have hAl2 : Below w.heap.size w ((W0.alloc (.cells #[] 3)).alloc (.cells #[.int .i64 (D.its.length : Int)] 3)).drew := below_dr ((hB0.alloc (by omega) _).alloc (by simp; omega) _)
  have hAl3 : Below w.heap.size w ((W0.alloc (.cells #[.int .i64 (D.its.length : Int)] 3)).alloc (.cells #[] 3)).drew := below_dr ((hB0.alloc (by omega) _).alloc (by simp; omega) _)
  have hE3 : (((W0.alloc (.cells #[.int .i64 (D.its.length : Int)] 3)).alloc (.cells #[] 3)).drew).ownsRow w.heap.size 3 1 (.slice (some ⟨W0.heap.size + 1, 0, none⟩) 0 0) 0 [] := by
    have := empty_row (W0.alloc (.cells #[.int .i64 (D.its.length : Int)] 3)) 3 1 w.heap.size (by simp; omega)
    rw [World.size_alloc] at this
    exact this
  have hE2 : (((W0.alloc (.cells #[] 3)).alloc (.cells #[.int .i64 (D.its.length : Int)] 3)).drew).ownsRow w.heap.size 3 1 (.slice (some ⟨W0.heap.size, 0, none⟩) 0 0) 0 [] := by
    have h : ((W0.alloc (.cells #[] 3)).alloc (.cells #[.int .i64 (D.its.length : Int)] 3)).ownsRow w.heap.size 3 1 (.slice (some ⟨W0.heap.size, 0, none⟩) 0 0) 0 [] := row_new (empty_row W0 3 1 w.heap.size (by omega)) ((Below.refl _ _).alloc (Nat.le_refl _) _)
    exact h
  have hL2 : ∀ (v1 : Value) (w1 : World), (((W0.alloc (.cells #[] 3)).alloc (.cells #[.int .i64 (D.its.length : Int)] 3)).drew).grownBy w1 (Value.slice (some ⟨W0.heap.size, 0, none⟩) 0 0).ownBlock → Reads w1 (W0.heap.size + 1 + 1) 1 (some ⟨W0.heap.size + 1, 0, none⟩) 1 [.int .i64 (D.its.length : Int)] := by
    intro v1 w1 hg
    have h := lit_reads (W0.alloc (.cells #[] 3)) 3 (.int .i64 (D.its.length : Int))
    rw [World.size_alloc] at h
    refine ⟨rfl, fun h1 => ?_⟩
    obtain ⟨ad, e, _, hc⟩ := h.2 h1
    injection e with e
    subst e
    refine ⟨_, rfl, by simp, fun j u hu => ?_⟩
    exact (World.cell?_of_block (by rw [block_of_add]; exact hg.block (W0.heap.size + 1) (by show _ < ((W0.alloc (.cells #[] 3)).alloc (.cells #[.int .i64 (D.its.length : Int)] 3)).heap.size; simp) (by simp [Value.ownBlock]))).trans (hc j u hu)
  have hL3 : ∀ (v1 : Value) (w1 : World), (((W0.alloc (.cells #[.int .i64 (D.its.length : Int)] 3)).alloc (.cells #[] 3)).drew).grownBy w1 (Value.slice (some ⟨W0.heap.size + 1, 0, none⟩) 0 0).ownBlock → Reads w1 (W0.heap.size + 1) 1 (some ⟨W0.heap.size, 0, none⟩) 1 [.int .i64 (D.its.length : Int)] := by
    intro v1 w1 hg
    have h := (lit_reads W0 3 (.int .i64 (D.its.length : Int))).alloc (by simp) (.cells #[] 3)
    refine ⟨rfl, fun h1 => ?_⟩
    obtain ⟨ad, e, _, hc⟩ := h.2 h1
    injection e with e
    subst e
    refine ⟨_, rfl, by simp, fun j u hu => ?_⟩
    exact (World.cell?_of_block (by rw [block_of_add]; exact hg.block W0.heap.size (by show _ < ((W0.alloc (.cells #[.int .i64 (D.its.length : Int)] 3)).alloc (.cells #[] 3)).heap.size; simp; omega) (by simp [Value.ownBlock]))).trans (hc j u hu)
  clear hsz0 hsd
  go_cut [16] from 7 to 16 (fun _ wx => PushAt w D Ai ci wx)
  case first =>
    go_region_law (first
      | (refine step_append_any (w := (W0.alloc (.cells #[] 3)).drew) (by rfl) _ _ 40 (by rfl) w.heap.size 3 j0 _ 1 8 Try.underlying40 hj hj0 hj1 hj2 rfl (by omega) (.slice (some ⟨W0.heap.size, 0, none⟩) 0 0) 0 [] (by rfl) ?_ w.heap.size As D.st.length cs (litV (sts D)) (by rfl) ?_ ?_ ?_ ?_ ?_ ?_; (next => exact empty_row W0 3 1 w.heap.size (by omega)); (next => exact hS.below hAl1); (next => exact one_litV _); (next => (simp only [maxLen]; omega)); (next => omega); (next => (show _ ≤ (W0.alloc (.cells #[] 3)).heap.size; simp; omega)); intro v1 w1 hown1 hg1 hat1; have hB1 := own_below hAl1 (by show _ ≤ (W0.alloc (.cells #[] 3)).heap.size; simp; omega) (empty_row W0 3 1 w.heap.size (by omega)) hg1; have hb1 := (Blk.drew (hb.alloc (.cells #[] 3))).grown hg1 (by simp [Value.ownBlock]; omega); have hq1 := (Blk.drew (hb2.alloc (.cells #[] 3))).grown hg1 (by simp [Value.ownBlock]; omega); have c2 := hb1.cell 2; have c3 := hb1.cell 3; have f3 := hb1.frozen 3; simp only [List.getElem?_toArray, List.getElem?_cons_succ, List.getElem?_cons_zero] at c2 c3; have hlw := hb1.lt)
      | (refine step_append_any (w := ((W0.alloc (.cells #[] 3)).alloc (.cells #[.int .i64 (D.its.length : Int)] 3)).drew) (by rfl) _ _ 40 (by rfl) w.heap.size 3 j0 _ 1 8 Try.underlying40 hj hj0 hj1 hj2 rfl (by omega) (.slice (some ⟨W0.heap.size, 0, none⟩) 0 0) 0 [] (by rfl) ?_ w.heap.size As D.st.length cs (litV (sts D)) (by rfl) ?_ ?_ ?_ ?_ ?_ ?_; (next => exact hE2); (next => exact hS.below hAl2); (next => exact one_litV _); (next => (simp only [maxLen]; omega)); (next => omega); (next => (show _ ≤ ((W0.alloc (.cells #[] 3)).alloc (.cells #[.int .i64 (D.its.length : Int)] 3)).heap.size; simp; omega)); intro v1 w1 hown1 hg1 hat1; have hB1 := own_below hAl2 (by show _ ≤ ((W0.alloc (.cells #[] 3)).alloc (.cells #[.int .i64 (D.its.length : Int)] 3)).heap.size; simp; omega) (hE2) hg1; have hb1 := (Blk.drew ((hb.alloc (.cells #[] 3)).alloc (.cells #[.int .i64 (D.its.length : Int)] 3))).grown hg1 (by simp [Value.ownBlock]; omega); have hq1 := (Blk.drew ((hb2.alloc (.cells #[] 3)).alloc (.cells #[.int .i64 (D.its.length : Int)] 3))).grown hg1 (by simp [Value.ownBlock]; omega); have c2 := hb1.cell 2; have c3 := hb1.cell 3; have f3 := hb1.frozen 3; simp only [List.getElem?_toArray, List.getElem?_cons_succ, List.getElem?_cons_zero] at c2 c3; have hlw := hb1.lt; have hlit := hL2 v1 w1 hg1)
      | (refine step_append_any (w := ((W0.alloc (.cells #[.int .i64 (D.its.length : Int)] 3)).alloc (.cells #[] 3)).drew) (by rfl) _ _ 40 (by rfl) w.heap.size 3 j0 _ 1 8 Try.underlying40 hj hj0 hj1 hj2 rfl (by omega) (.slice (some ⟨(W0.heap.size + 1), 0, none⟩) 0 0) 0 [] (by rfl) ?_ w.heap.size As D.st.length cs (litV (sts D)) (by rfl) ?_ ?_ ?_ ?_ ?_ ?_; (next => exact hE3); (next => exact hS.below hAl3); (next => exact one_litV _); (next => (simp only [maxLen]; omega)); (next => omega); (next => (show _ ≤ ((W0.alloc (.cells #[.int .i64 (D.its.length : Int)] 3)).alloc (.cells #[] 3)).heap.size; simp; omega)); intro v1 w1 hown1 hg1 hat1; have hB1 := own_below hAl3 (by show _ ≤ ((W0.alloc (.cells #[.int .i64 (D.its.length : Int)] 3)).alloc (.cells #[] 3)).heap.size; simp; omega) (hE3) hg1; have hb1 := (Blk.drew ((hb.alloc (.cells #[.int .i64 (D.its.length : Int)] 3)).alloc (.cells #[] 3))).grown hg1 (by simp [Value.ownBlock]; omega); have hq1 := (Blk.drew ((hb2.alloc (.cells #[.int .i64 (D.its.length : Int)] 3)).alloc (.cells #[] 3))).grown hg1 (by simp [Value.ownBlock]; omega); have c2 := hb1.cell 2; have c3 := hb1.cell 3; have f3 := hb1.frozen 3; simp only [List.getElem?_toArray, List.getElem?_cons_succ, List.getElem?_cons_zero] at c2 c3; have hlw := hb1.lt; have hlit := hL3 v1 w1 hg1)
      | (refine step_append_any (w := w1.alloc (.cells #[.int .i64 (D.its.length : Int)] 3)) (by rfl) _ _ 40 (by rfl) w.heap.size 3 j0 _ 1 8 Try.underlying40 hj hj0 hj1 hj2 rfl (by omega) v1 (0 + D.st.length) ([] ++ litV (sts D)) (by rfl) ?_ (w1.heap.size + 1) (some ⟨w1.heap.size, 0, none⟩) 1 1 [.int .i64 (D.its.length : Int)] (by rfl) ?_ ?_ ?_ ?_ ?_ ?_; (next => exact row_new hown1 ((Below.refl _ _).alloc (Nat.le_refl _) _)); (next => exact lit_reads w1 3 _); (next => simp [Value.oneCell']); (next => (simp only [maxLen]; omega)); (next => omega); (next => first | omega | (simp; omega) | simp); intro v2 w2 hown2 hg2 hat2; have hB2 := own_below (hB1.alloc (by omega) _) (by first | omega | (rw [World.size_alloc]; omega)) (row_new hown1 ((Below.refl _ _).alloc (Nat.le_refl _) _)) hg2; have hb2' := (hb1.alloc (.cells #[.int .i64 (D.its.length : Int)] 3)).grown hg2 (fun e => by have h0 := hat1; rw [← e] at h0; simp [Value.ownBlock] at h0; omega); have hq2 := (hq1.alloc (.cells #[.int .i64 (D.its.length : Int)] 3)).grown hg2 (fun e => by have h0 := hat1; rw [← e] at h0; simp [Value.ownBlock] at h0; omega); have d2 := hb2'.cell 2; have d3 := hb2'.cell 3; have g3 := hb2'.frozen 3; simp only [List.getElem?_toArray, List.getElem?_cons_succ, List.getElem?_cons_zero] at d2 d3; have hlw2 := hb2'.lt; obtain ⟨A9, c9, rfl⟩ := own_form hown2)
      | (refine step_append_any (w := w1) (by rfl) _ _ 40 (by rfl) w.heap.size 3 j0 _ 1 8 Try.underlying40 hj hj0 hj1 hj2 rfl (by omega) v1 (0 + D.st.length) ([] ++ litV (sts D)) (by rfl) ?_ (W0.heap.size + 1 + 1) (some ⟨(W0.heap.size + 1), 0, none⟩) 1 1 [.int .i64 (D.its.length : Int)] (by rfl) ?_ ?_ ?_ ?_ ?_ ?_; (next => exact hown1); (next => exact hlit); (next => simp [Value.oneCell']); (next => (simp only [maxLen]; omega)); (next => omega); (next => first | omega | (simp; omega) | simp); intro v2 w2 hown2 hg2 hat2; have hB2 := own_below hB1 (by first | omega | (rw [World.size_alloc]; omega)) (hown1) hg2; have hb2' := (hb1).grown hg2 (fun e => by have h0 := hat1; rw [← e] at h0; simp [Value.ownBlock] at h0; omega); have hq2 := (hq1).grown hg2 (fun e => by have h0 := hat1; rw [← e] at h0; simp [Value.ownBlock] at h0; omega); have d2 := hb2'.cell 2; have d3 := hb2'.cell 3; have g3 := hb2'.frozen 3; simp only [List.getElem?_toArray, List.getElem?_cons_succ, List.getElem?_cons_zero] at d2 d3; have hlw2 := hb2'.lt; obtain ⟨A9, c9, rfl⟩ := own_form hown2)
      | (refine step_append_any (w := w1) (by rfl) _ _ 40 (by rfl) w.heap.size 3 j0 _ 1 8 Try.underlying40 hj hj0 hj1 hj2 rfl (by omega) v1 (0 + D.st.length) ([] ++ litV (sts D)) (by rfl) ?_ (W0.heap.size + 1) (some ⟨W0.heap.size, 0, none⟩) 1 1 [.int .i64 (D.its.length : Int)] (by rfl) ?_ ?_ ?_ ?_ ?_ ?_; (next => exact hown1); (next => exact hlit); (next => simp [Value.oneCell']); (next => (simp only [maxLen]; omega)); (next => omega); (next => first | omega | (simp; omega) | simp); intro v2 w2 hown2 hg2 hat2; have hB2 := own_below hB1 (by first | omega | (rw [World.size_alloc]; omega)) (hown1) hg2; have hb2' := (hb1).grown hg2 (fun e => by have h0 := hat1; rw [← e] at h0; simp [Value.ownBlock] at h0; omega); have hq2 := (hq1).grown hg2 (fun e => by have h0 := hat1; rw [← e] at h0; simp [Value.ownBlock] at h0; omega); have d2 := hb2'.cell 2; have d3 := hb2'.cell 3; have g3 := hb2'.frozen 3; simp only [List.getElem?_toArray, List.getElem?_cons_succ, List.getElem?_cons_zero] at d2 d3; have hlw2 := hb2'.lt; obtain ⟨A9, c9, rfl⟩ := own_form hown2))
    all_goals
      have hset := hb2'.set_ 3 (.slice A9 (0 + D.st.length + 1) c9)
      have hw2 : w.heap.size < w2.heap.size := hb2'.lt
      have hfin : PushAt w D Ai ci (w2.setCell ⟨w.heap.size, 3, none⟩ (.slice A9 (0 + D.st.length + 1) c9)) :=
        ⟨A9, c9, by simpa using hset, hq2.far (by show _ ≠ w.heap.size; omega) _, by
          have q := own_only hown2 ((Only.refl [w.heap.size] w2).setCell (p := ⟨w.heap.size, 3, none⟩) (.inl (by simp)) (.slice A9 (0 + D.st.length + 1) c9)) (fun i hi hm => by have h1 := List.mem_singleton.1 hm; rcases hat2 with h | h <;> rw [h] at hi <;> (try rcases hat1 with h' | h' <;> (try rw [h'] at hi)) <;> simp [Value.ownBlock] at hi <;> omega)
          simpa [litV] using q, hB2.setCell (Nat.le_refl _) _⟩
      simp only [Nat.zero_add] at hfin
      go_wp2
      go_meet
      exact hfin
  case rest =>
    obtain ⟨A9, c9, h1, h2, h3, h4⟩ := hcut
    have hcap9 := own_cap h3
    have c0 := h1.cell 0
    have c1 := h1.cell 1
    have c2 := h1.cell 2
    have c3 := h1.cell 3
    have e0 := h2.cell 0
    have e1 := h2.cell 1
    have e2 := h2.cell 2
    have e3 := h2.cell 3
    have g0 := h2.frozen 0
    have g1 := h2.frozen 1
    have g2 := h2.frozen 2
    have g3 := h2.frozen 3
    simp only [List.getElem?_toArray, List.getElem?_cons_succ, List.getElem?_cons_zero] at c0 c1 c2 c3 e0 e1 e2 e3
    go_wp2_with fail
    have hne := own_blk_ne h3 h2 (by decide)
    have hf := (((h2.set_ 0 (.int .i64 D.n)).set_ 1 (.int .i64 D.st.length)).set_ 2 (.slice Ai D.its.length ci)).set_ 3 (.slice A9 (D.st.length + 1) c9)
    have hO : Only [w.heap.size + 1] wc ((((wc.setCell ⟨w.heap.size + 1, 0, none⟩ (.int .i64 D.n)).setCell ⟨w.heap.size + 1, 1, none⟩ (.int .i64 D.st.length)).setCell ⟨w.heap.size + 1, 2, none⟩ (.slice Ai D.its.length ci)).setCell ⟨w.heap.size + 1, 3, none⟩ (.slice A9 (D.st.length + 1) c9)) :=
      ((((Only.refl _ wc).setCell (.inl (by simp)) _).setCell (.inl (by simp)) _).setCell (.inl (by simp)) _).setCell (.inl (by simp)) _
    have hB9 := h4.trans (hO.below h4.size (fun i hi => by have := List.mem_singleton.1 hi; omega))
    have h3' := own_only h3 hO (fun i hi hm => by have := List.mem_singleton.1 hm; subst this; exact hne hi)
    refine bodyPost_ret (results_cell_row rfl _ _ (w.heap.size + 1) 82 _ (0, 0) _ rfl hf Try.underlying82 rfl (by kernel_rfl)) rfl ?_
    refine ⟨_, rfl, fun W2 ho => ⟨Ai, ci, A9, c9, ?_, (hX.out.rows hB9 ho).1, ?_, k1, k2, ?_, hcap9.2⟩, hB9⟩
    · simp [psh]
    · have := Reads.of_own (own_only h3' ho (fun k hk hm => by have := hfp.out k hm; have := own_ge h3' k hk; omega))
      simpa [psh, sts] using this
    · have := hcap9.1; simpa [psh] using this
end Go.Proofs.Ytkedepkhcbhcdaa
