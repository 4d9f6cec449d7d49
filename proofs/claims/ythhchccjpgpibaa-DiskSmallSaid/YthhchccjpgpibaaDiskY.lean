/- Disks: the reference: one thing more is done. -/
import Derived.Test.YthhchccjpgpibaaDiskX
import Derived.Sort.CutIn
import Derived.Laws.Rows
namespace Go.Proofs.Ythhchccjpgpibaa
open Go Go.RowKit Go.Shelf
set_option linter.unusedVariables false
set_option linter.unusedSimpArgs false
set_option maxHeartbeats 4000000
theorem below_dr {B : Nat} {w w' : World} (h : Below B w w') : Below B w w'.drew := ⟨h.os, h.tape, h.output, h.size, h.block⟩
theorem below_drN {B : Nat} {w w' : World} (h : Below B w w') (n : Nat) : Below B w (w'.drewN n) := ⟨h.os, h.tape, h.output, h.size, h.block⟩
theorem info96 : (Try.prog.info? 96).map (fun i => (i.zero, i.size, i.bytes)) = some (some (.agg #[.int .i64 0, .int .i64 0, .int .i64 0]), 3, 24) := by kernel_rfl
theorem one_encRs (l : List RAct) : ∀ u ∈ encRs l, u.oneCell' = true := by
  intro u hu
  obtain ⟨x, _, hx⟩ := List.mem_flatMap.1 hu
  simp [encR] at hx
  rcases hx with rfl | rfl | rfl <;> rfl
theorem lit_reads3 (W : World) (e : TypeId) (a b c : Value) : Reads (W.alloc (.cells #[a, b, c] e)) (W.heap.size + 1) 3 (some ⟨W.heap.size, 0, none⟩) 1 [a, b, c] := ⟨rfl, fun _ => ⟨_, rfl, by simp, fun j u hu => by
  have h0 := (Blk.new W e #[a, b, c]).cell j
  rw [Addr.add_lit, Nat.zero_add, h0]
  simpa using hu⟩⟩
theorem empty_row (W : World) (e : Nat) (size base : Nat) (h : base ≤ W.heap.size) : (W.alloc (.cells #[] e)).ownsRow base e size (.slice (some ⟨W.heap.size, 0, none⟩) 0 0) 0 [] :=
  own_base (lit_own W e [] size 0 (by decide) (by simp)) h
theorem own_ge {w : World} {base : Nat} {e : TypeId} {size : Nat} {v : Value} {n : Nat} {xs : List Value} (h : w.ownsRow base e size v n xs) : ∀ k, v.ownBlock = some k → base ≤ k := fun k hk => (h.lt k hk).1
theorem own_cap {w : World} {base n m c : Nat} {e : TypeId} {size : Nat} {A : Option Addr} {xs : List Value} (h : w.ownsRow base e size (.slice A n c) m xs) : n ≤ c ∧ c ≤ 9223372036854775807 := by
  have hml : maxLen ≤ 9223372036854775807 := by decide
  rcases h.2 with ⟨hv, _⟩ | ⟨g, cap, cur, hv, _, _, h1, h2, _⟩
  · injection hv with _ a b
    omega
  · injection hv with _ a b
    omega
/-- A disk of the reference that stays as it is while the listed blocks change. -/
def RfX (fp : List Nat) (w : World) (v : Value) (D0 : Dst) (l : List RAct) : Prop := ∀ W', Only fp w W' → Rf W' v D0 l
section
variable {fp fq : List Nat} {w W : World} {v : Value} {D0 : Dst} {l : List RAct}
theorem RfX.ref (h : RfX fp w v D0 l) : Rf w v D0 l := h w (Only.refl _ _)
theorem RfX.only (h : RfX fp w v D0 l) (ho : Only fp w W) : RfX fp W v D0 l := fun W' h' => h W' (ho.trans h')
theorem RfX.less (h : RfX fp w v D0 l) (hs : ∀ k ∈ fq, k < w.heap.size → k ∈ fp) : RfX fq w v D0 l := fun W' ho => h W' (ho.more hs)
theorem RfX.new (h : RfX fp w v D0 l) (hb : Below w.heap.size w W) : RfX fp W v D0 l := h.only (only_of_below _ hb)
theorem RfX.rows {a : Value} {Af Ad : Option Addr} {m k cf cd : Nat} (h : RfX fp w (.agg #[.slice Af m cf, a, .slice Ad k cd]) D0 l) (hb : Below w.heap.size w W) {W' : World} (ho : Only fp W W') : Reads W' W'.heap.size 1 Af D0.ws.length (D0.ws.map (Value.int .i64)) ∧ Reads W' W'.heap.size 3 Ad l.length (encRs l) := by
  obtain ⟨Af', cf', Ad', cd', e, h1, h2, _⟩ := h W' ((only_of_below fp hb).trans ho)
  simp at e
  obtain ⟨⟨rfl, _, _⟩, _, rfl, _, _⟩ := e
  exact ⟨h1, h2⟩
end
/-- Behind the appends. -/
def DoAt (w : World) (D0 : Dst) (l : List RAct) (ak ab aw : Int) (Af : Option Addr) (cf : Nat) (wx : World) : Prop := ∃ A9 c9, Blk wx w.heap.size 74 #[.slice Af D0.ws.length cf, .int .i64 D0.wd, .slice A9 (l.length + 1) c9] ∧
  Blk wx (w.heap.size + 1 + 1) 74 #[.slice none 0 0, .int .i64 0, .slice none 0 0] ∧ wx.ownsRow w.heap.size 96 3 (.slice A9 (l.length + 1) c9) (l.length + 1) (encRs (l ++ [(ak, ab, aw)])) ∧ Below w.heap.size w wx
set_option maxRecDepth 100000 in
theorem rdo {w : World} {v : Value} {D0 : Dst} {l : List RAct} {fp : List Nat} (hX : RfX fp w v D0 l) (hfp : ∀ k ∈ fp, k < w.heap.size) (hl : l.length ≤ 1000) (ak ab aw : Int) : Calls Try.prog 52 #[v, .agg #[.int .i64 ak, .int .i64 ab, .int .i64 aw]] w fun e w' => ∃ v', e = .returned v' ∧ RfX fp w' v' D0 (l ++ [(ak, ab, aw)]) ∧ Below w.heap.size w w' := by
  obtain ⟨Af, cf, Ad, cd, rfl, hF, hA, k1, k2, k3, k4⟩ := hX.ref
  replace hX := Lib.hid hX
  replace hfp := Lib.hid hfp
  obtain ⟨j0, hj, hj0, hj1, hj2⟩ := info_parts info96
  go_enter Try.func52, Try.ntmps52
  go_wp2_with fail
  have hb := ((Blk.new w 74 #[.slice Af D0.ws.length cf, .int .i64 D0.wd, .slice Ad l.length cd]).alloc (.cells #[.int .i64 ak, .int .i64 ab, .int .i64 aw] 96)).alloc (.cells #[.slice none 0 0, .int .i64 0, .slice none 0 0] 74)
  have hx := (Blk.new (w.alloc (.cells #[.slice Af D0.ws.length cf, .int .i64 D0.wd, .slice Ad l.length cd] 74)) 96 #[.int .i64 ak, .int .i64 ab, .int .i64 aw]).alloc (.cells #[.slice none 0 0, .int .i64 0, .slice none 0 0] 74)
  have hz := Blk.new ((w.alloc (.cells #[.slice Af D0.ws.length cf, .int .i64 D0.wd, .slice Ad l.length cd] 74)).alloc (.cells #[.int .i64 ak, .int .i64 ab, .int .i64 aw] 96)) 74 #[.slice none 0 0, .int .i64 0, .slice none 0 0]
  rw [World.size_alloc] at hx
  rw [World.size_alloc, World.size_alloc] at hz
  have hB0 : Below w.heap.size w (((w.alloc (.cells #[.slice Af D0.ws.length cf, .int .i64 D0.wd, .slice Ad l.length cd] 74)).alloc (.cells #[.int .i64 ak, .int .i64 ab, .int .i64 aw] 96)).alloc (.cells #[.slice none 0 0, .int .i64 0, .slice none 0 0] 74)) := (((Below.refl _ _).alloc (Nat.le_refl _) _).alloc (by simp) _).alloc (by simp; omega) _
  have hsz0 : (((w.alloc (.cells #[.slice Af D0.ws.length cf, .int .i64 D0.wd, .slice Ad l.length cd] 74)).alloc (.cells #[.int .i64 ak, .int .i64 ab, .int .i64 aw] 96)).alloc (.cells #[.slice none 0 0, .int .i64 0, .slice none 0 0] 74)).heap.size = w.heap.size + 3 := by simp
  generalize (((w.alloc (.cells #[.slice Af D0.ws.length cf, .int .i64 D0.wd, .slice Ad l.length cd] 74)).alloc (.cells #[.int .i64 ak, .int .i64 ab, .int .i64 aw] 96)).alloc (.cells #[.slice none 0 0, .int .i64 0, .slice none 0 0] 74)) = W0 at *
  have b2 := hb.cell 2
  have x0 := hx.cell 0
  have x1 := hx.cell 1
  have x2 := hx.cell 2
  simp only [List.getElem?_toArray, List.getElem?_cons_succ, List.getElem?_cons_zero] at b2 x0 x1 x2
  have hlt1 : w.heap.size < W0.heap.size := by omega
  have hlt2 : w.heap.size + 1 < W0.heap.size := by omega
  have hlt3 : w.heap.size + 1 + 1 < W0.heap.size := by omega
  have hAl1 : Below w.heap.size w (W0.alloc (.cells #[] 96)).drew := below_dr (hB0.alloc (by omega) _)
  have hAl2 : Below w.heap.size w ((W0.alloc (.cells #[] 96)).alloc (.cells #[.int .i64 ak, .int .i64 ab, .int .i64 aw] 96)).drew := below_dr ((hB0.alloc (by omega) _).alloc (by simp; omega) _)
  have hAl3 : Below w.heap.size w ((W0.alloc (.cells #[.int .i64 ak, .int .i64 ab, .int .i64 aw] 96)).alloc (.cells #[] 96)).drew := below_dr ((hB0.alloc (by omega) _).alloc (by simp; omega) _)
  have hE3 : (((W0.alloc (.cells #[.int .i64 ak, .int .i64 ab, .int .i64 aw] 96)).alloc (.cells #[] 96)).drew).ownsRow w.heap.size 96 3 (.slice (some ⟨W0.heap.size + 1, 0, none⟩) 0 0) 0 [] := by
    have := empty_row (W0.alloc (.cells #[.int .i64 ak, .int .i64 ab, .int .i64 aw] 96)) 96 3 w.heap.size (by simp; omega)
    rw [World.size_alloc] at this
    exact this
  have hE2 : (((W0.alloc (.cells #[] 96)).alloc (.cells #[.int .i64 ak, .int .i64 ab, .int .i64 aw] 96)).drew).ownsRow w.heap.size 96 3 (.slice (some ⟨W0.heap.size, 0, none⟩) 0 0) 0 [] := by
    have h : ((W0.alloc (.cells #[] 96)).alloc (.cells #[.int .i64 ak, .int .i64 ab, .int .i64 aw] 96)).ownsRow w.heap.size 96 3 (.slice (some ⟨W0.heap.size, 0, none⟩) 0 0) 0 [] := row_new (empty_row W0 96 3 w.heap.size (by omega)) ((Below.refl _ _).alloc (Nat.le_refl _) _)
    exact h
  have hL2 : ∀ (v1 : Value) (w1 : World), (((W0.alloc (.cells #[] 96)).alloc (.cells #[.int .i64 ak, .int .i64 ab, .int .i64 aw] 96)).drew).grownBy w1 (Value.slice (some ⟨W0.heap.size, 0, none⟩) 0 0).ownBlock → Reads w1 (W0.heap.size + 1 + 1) 3 (some ⟨W0.heap.size + 1, 0, none⟩) 1 [.int .i64 ak, .int .i64 ab, .int .i64 aw] := by
    intro v1 w1 hg
    have h := lit_reads3 (W0.alloc (.cells #[] 96)) 96 (.int .i64 ak) (.int .i64 ab) (.int .i64 aw)
    rw [World.size_alloc] at h
    refine ⟨rfl, fun h1 => ?_⟩
    obtain ⟨ad, e, _, hc⟩ := h.2 h1
    injection e with e
    subst e
    refine ⟨_, rfl, by simp, fun j u hu => ?_⟩
    exact (World.cell?_of_block (by rw [block_of_add]; exact hg.block (W0.heap.size + 1) (by show _ < ((W0.alloc (.cells #[] 96)).alloc (.cells #[.int .i64 ak, .int .i64 ab, .int .i64 aw] 96)).heap.size; simp) (by simp [Value.ownBlock]))).trans (hc j u hu)
  have hL3 : ∀ (v1 : Value) (w1 : World), (((W0.alloc (.cells #[.int .i64 ak, .int .i64 ab, .int .i64 aw] 96)).alloc (.cells #[] 96)).drew).grownBy w1 (Value.slice (some ⟨W0.heap.size + 1, 0, none⟩) 0 0).ownBlock → Reads w1 (W0.heap.size + 1) 3 (some ⟨W0.heap.size, 0, none⟩) 1 [.int .i64 ak, .int .i64 ab, .int .i64 aw] := by
    intro v1 w1 hg
    have h := (lit_reads3 W0 96 (.int .i64 ak) (.int .i64 ab) (.int .i64 aw)).alloc (by simp) (.cells #[] 96)
    refine ⟨rfl, fun h1 => ?_⟩
    obtain ⟨ad, e, _, hc⟩ := h.2 h1
    injection e with e
    subst e
    refine ⟨_, rfl, by simp, fun j u hu => ?_⟩
    exact (World.cell?_of_block (by rw [block_of_add]; exact hg.block W0.heap.size (by show _ < ((W0.alloc (.cells #[.int .i64 ak, .int .i64 ab, .int .i64 aw] 96)).alloc (.cells #[] 96)).heap.size; simp; omega) (by simp [Value.ownBlock]))).trans (hc j u hu)
  clear hsz0
  go_cut [12] from 5 to 12 (fun _ wx => DoAt w D0 l ak ab aw Af cf wx)
  case first =>
    go_region_law (first
      | (refine step_append_any (w := (W0.alloc (.cells #[] 96)).drew) (by rfl) _ _ 72 (by rfl) w.heap.size 96 j0 _ 3 24 Try.underlying72 hj hj0 hj1 hj2 rfl (by omega) (.slice (some ⟨W0.heap.size, 0, none⟩) 0 0) 0 [] (by rfl) ?_ w.heap.size Ad l.length cd (encRs l) (by rfl) ?_ ?_ ?_ ?_ ?_ ?_; (next => exact empty_row W0 96 3 w.heap.size (by omega)); (next => exact hA.below hAl1); (next => exact one_encRs _); (next => (simp only [maxLen]; omega)); (next => omega); (next => (show _ ≤ (W0.alloc (.cells #[] 96)).heap.size; simp; omega)); intro v1 w1 hown1 hg1 hat1; have hB1 := own_below hAl1 (by show _ ≤ (W0.alloc (.cells #[] 96)).heap.size; simp; omega) (empty_row W0 96 3 w.heap.size (by omega)) hg1; have kb1 := (Blk.drew (hb.alloc (.cells #[] 96))).grown hg1 (by simp [Value.ownBlock]; omega); have kx1 := (Blk.drew (hx.alloc (.cells #[] 96))).grown hg1 (by simp [Value.ownBlock]; omega); have kz1 := (Blk.drew (hz.alloc (.cells #[] 96))).grown hg1 (by simp [Value.ownBlock]; omega); have kb1c0 := kb1.cell 0; have kb1c1 := kb1.cell 1; have kb1c2 := kb1.cell 2; have kx1c0 := kx1.cell 0; have kx1c1 := kx1.cell 1; have kx1c2 := kx1.cell 2; simp only [List.getElem?_toArray, List.getElem?_cons_succ, List.getElem?_cons_zero] at kb1c0 kb1c1 kb1c2 kx1c0 kx1c1 kx1c2; have kb1f := kb1.frozen 2; have hlw := kb1.lt)
      | (refine step_append_any (w := ((W0.alloc (.cells #[] 96)).alloc (.cells #[.int .i64 ak, .int .i64 ab, .int .i64 aw] 96)).drew) (by rfl) _ _ 72 (by rfl) w.heap.size 96 j0 _ 3 24 Try.underlying72 hj hj0 hj1 hj2 rfl (by omega) (.slice (some ⟨W0.heap.size, 0, none⟩) 0 0) 0 [] (by rfl) ?_ w.heap.size Ad l.length cd (encRs l) (by rfl) ?_ ?_ ?_ ?_ ?_ ?_; (next => exact hE2); (next => exact hA.below hAl2); (next => exact one_encRs _); (next => (simp only [maxLen]; omega)); (next => omega); (next => (show _ ≤ ((W0.alloc (.cells #[] 96)).alloc (.cells #[.int .i64 ak, .int .i64 ab, .int .i64 aw] 96)).heap.size; simp; omega)); intro v1 w1 hown1 hg1 hat1; have hB1 := own_below hAl2 (by show _ ≤ ((W0.alloc (.cells #[] 96)).alloc (.cells #[.int .i64 ak, .int .i64 ab, .int .i64 aw] 96)).heap.size; simp; omega) (hE2) hg1; have kb1 := (Blk.drew ((hb.alloc (.cells #[] 96)).alloc (.cells #[.int .i64 ak, .int .i64 ab, .int .i64 aw] 96))).grown hg1 (by simp [Value.ownBlock]; omega); have kx1 := (Blk.drew ((hx.alloc (.cells #[] 96)).alloc (.cells #[.int .i64 ak, .int .i64 ab, .int .i64 aw] 96))).grown hg1 (by simp [Value.ownBlock]; omega); have kz1 := (Blk.drew ((hz.alloc (.cells #[] 96)).alloc (.cells #[.int .i64 ak, .int .i64 ab, .int .i64 aw] 96))).grown hg1 (by simp [Value.ownBlock]; omega); have kb1c0 := kb1.cell 0; have kb1c1 := kb1.cell 1; have kb1c2 := kb1.cell 2; have kx1c0 := kx1.cell 0; have kx1c1 := kx1.cell 1; have kx1c2 := kx1.cell 2; simp only [List.getElem?_toArray, List.getElem?_cons_succ, List.getElem?_cons_zero] at kb1c0 kb1c1 kb1c2 kx1c0 kx1c1 kx1c2; have kb1f := kb1.frozen 2; have hlw := kb1.lt; have hlit := hL2 v1 w1 hg1)
      | (refine step_append_any (w := ((W0.alloc (.cells #[.int .i64 ak, .int .i64 ab, .int .i64 aw] 96)).alloc (.cells #[] 96)).drew) (by rfl) _ _ 72 (by rfl) w.heap.size 96 j0 _ 3 24 Try.underlying72 hj hj0 hj1 hj2 rfl (by omega) (.slice (some ⟨(W0.heap.size + 1), 0, none⟩) 0 0) 0 [] (by rfl) ?_ w.heap.size Ad l.length cd (encRs l) (by rfl) ?_ ?_ ?_ ?_ ?_ ?_; (next => exact hE3); (next => exact hA.below hAl3); (next => exact one_encRs _); (next => (simp only [maxLen]; omega)); (next => omega); (next => (show _ ≤ ((W0.alloc (.cells #[.int .i64 ak, .int .i64 ab, .int .i64 aw] 96)).alloc (.cells #[] 96)).heap.size; simp; omega)); intro v1 w1 hown1 hg1 hat1; have hB1 := own_below hAl3 (by show _ ≤ ((W0.alloc (.cells #[.int .i64 ak, .int .i64 ab, .int .i64 aw] 96)).alloc (.cells #[] 96)).heap.size; simp; omega) (hE3) hg1; have kb1 := (Blk.drew ((hb.alloc (.cells #[.int .i64 ak, .int .i64 ab, .int .i64 aw] 96)).alloc (.cells #[] 96))).grown hg1 (by simp [Value.ownBlock]; omega); have kx1 := (Blk.drew ((hx.alloc (.cells #[.int .i64 ak, .int .i64 ab, .int .i64 aw] 96)).alloc (.cells #[] 96))).grown hg1 (by simp [Value.ownBlock]; omega); have kz1 := (Blk.drew ((hz.alloc (.cells #[.int .i64 ak, .int .i64 ab, .int .i64 aw] 96)).alloc (.cells #[] 96))).grown hg1 (by simp [Value.ownBlock]; omega); have kb1c0 := kb1.cell 0; have kb1c1 := kb1.cell 1; have kb1c2 := kb1.cell 2; have kx1c0 := kx1.cell 0; have kx1c1 := kx1.cell 1; have kx1c2 := kx1.cell 2; simp only [List.getElem?_toArray, List.getElem?_cons_succ, List.getElem?_cons_zero] at kb1c0 kb1c1 kb1c2 kx1c0 kx1c1 kx1c2; have kb1f := kb1.frozen 2; have hlw := kb1.lt; have hlit := hL3 v1 w1 hg1)
      | (refine step_append_any (w := w1.alloc (.cells #[.int .i64 ak, .int .i64 ab, .int .i64 aw] 96)) (by rfl) _ _ 72 (by rfl) w.heap.size 96 j0 _ 3 24 Try.underlying72 hj hj0 hj1 hj2 rfl (by omega) v1 (0 + l.length) ([] ++ encRs l) (by rfl) ?_ (w1.heap.size + 1) (some ⟨w1.heap.size, 0, none⟩) 1 1 [.int .i64 ak, .int .i64 ab, .int .i64 aw] (by rfl) ?_ ?_ ?_ ?_ ?_ ?_; (next => exact row_new hown1 ((Below.refl _ _).alloc (Nat.le_refl _) _)); (next => exact lit_reads3 w1 96 _ _ _); (next => simp [Value.oneCell']); (next => (simp only [maxLen]; omega)); (next => omega); (next => first | omega | (simp; omega) | simp); intro v2 w2 hown2 hg2 hat2; have hB2 := own_below (hB1.alloc (by omega) _) (by first | omega | (rw [World.size_alloc]; omega)) (row_new hown1 ((Below.refl _ _).alloc (Nat.le_refl _) _)) hg2; have kb2 := (kb1.alloc (.cells #[.int .i64 ak, .int .i64 ab, .int .i64 aw] 96)).grown hg2 (fun e => by have h0 := hat1; rw [← e] at h0; simp [Value.ownBlock] at h0; omega); have kx2 := (kx1.alloc (.cells #[.int .i64 ak, .int .i64 ab, .int .i64 aw] 96)).grown hg2 (fun e => by have h0 := hat1; rw [← e] at h0; simp [Value.ownBlock] at h0; omega); have kz2 := (kz1.alloc (.cells #[.int .i64 ak, .int .i64 ab, .int .i64 aw] 96)).grown hg2 (fun e => by have h0 := hat1; rw [← e] at h0; simp [Value.ownBlock] at h0; omega); have kb2c0 := kb2.cell 0; have kb2c1 := kb2.cell 1; have kb2c2 := kb2.cell 2; have kx2c0 := kx2.cell 0; have kx2c1 := kx2.cell 1; have kx2c2 := kx2.cell 2; simp only [List.getElem?_toArray, List.getElem?_cons_succ, List.getElem?_cons_zero] at kb2c0 kb2c1 kb2c2 kx2c0 kx2c1 kx2c2; have kb2f := kb2.frozen 2; have hlw2 := kb2.lt; obtain ⟨A9, c9, rfl⟩ := own_form hown2)
      | (refine step_append_any (w := w1) (by rfl) _ _ 72 (by rfl) w.heap.size 96 j0 _ 3 24 Try.underlying72 hj hj0 hj1 hj2 rfl (by omega) v1 (0 + l.length) ([] ++ encRs l) (by rfl) ?_ (W0.heap.size + 1 + 1) (some ⟨(W0.heap.size + 1), 0, none⟩) 1 1 [.int .i64 ak, .int .i64 ab, .int .i64 aw] (by rfl) ?_ ?_ ?_ ?_ ?_ ?_; (next => exact hown1); (next => exact hlit); (next => simp [Value.oneCell']); (next => (simp only [maxLen]; omega)); (next => omega); (next => first | omega | (simp; omega) | simp); intro v2 w2 hown2 hg2 hat2; have hB2 := own_below hB1 (by first | omega | (rw [World.size_alloc]; omega)) (hown1) hg2; have kb2 := kb1.grown hg2 (fun e => by have h0 := hat1; rw [← e] at h0; simp [Value.ownBlock] at h0; omega); have kx2 := kx1.grown hg2 (fun e => by have h0 := hat1; rw [← e] at h0; simp [Value.ownBlock] at h0; omega); have kz2 := kz1.grown hg2 (fun e => by have h0 := hat1; rw [← e] at h0; simp [Value.ownBlock] at h0; omega); have kb2c0 := kb2.cell 0; have kb2c1 := kb2.cell 1; have kb2c2 := kb2.cell 2; have kx2c0 := kx2.cell 0; have kx2c1 := kx2.cell 1; have kx2c2 := kx2.cell 2; simp only [List.getElem?_toArray, List.getElem?_cons_succ, List.getElem?_cons_zero] at kb2c0 kb2c1 kb2c2 kx2c0 kx2c1 kx2c2; have kb2f := kb2.frozen 2; have hlw2 := kb2.lt; obtain ⟨A9, c9, rfl⟩ := own_form hown2)
      | (refine step_append_any (w := w1) (by rfl) _ _ 72 (by rfl) w.heap.size 96 j0 _ 3 24 Try.underlying72 hj hj0 hj1 hj2 rfl (by omega) v1 (0 + l.length) ([] ++ encRs l) (by rfl) ?_ (W0.heap.size + 1) (some ⟨W0.heap.size, 0, none⟩) 1 1 [.int .i64 ak, .int .i64 ab, .int .i64 aw] (by rfl) ?_ ?_ ?_ ?_ ?_ ?_; (next => exact hown1); (next => exact hlit); (next => simp [Value.oneCell']); (next => (simp only [maxLen]; omega)); (next => omega); (next => first | omega | (simp; omega) | simp); intro v2 w2 hown2 hg2 hat2; have hB2 := own_below hB1 (by first | omega | (rw [World.size_alloc]; omega)) (hown1) hg2; have kb2 := kb1.grown hg2 (fun e => by have h0 := hat1; rw [← e] at h0; simp [Value.ownBlock] at h0; omega); have kx2 := kx1.grown hg2 (fun e => by have h0 := hat1; rw [← e] at h0; simp [Value.ownBlock] at h0; omega); have kz2 := kz1.grown hg2 (fun e => by have h0 := hat1; rw [← e] at h0; simp [Value.ownBlock] at h0; omega); have kb2c0 := kb2.cell 0; have kb2c1 := kb2.cell 1; have kb2c2 := kb2.cell 2; have kx2c0 := kx2.cell 0; have kx2c1 := kx2.cell 1; have kx2c2 := kx2.cell 2; simp only [List.getElem?_toArray, List.getElem?_cons_succ, List.getElem?_cons_zero] at kb2c0 kb2c1 kb2c2 kx2c0 kx2c1 kx2c2; have kb2f := kb2.frozen 2; have hlw2 := kb2.lt; obtain ⟨A9, c9, rfl⟩ := own_form hown2))
    all_goals
      have hset := kb2.set_ 2 (.slice A9 (0 + l.length + 1) c9)
      have hw2 : w.heap.size < w2.heap.size := kb2.lt
      have hfin : DoAt w D0 l ak ab aw Af cf (w2.setCell ⟨w.heap.size, 2, none⟩ (.slice A9 (0 + l.length + 1) c9)) :=
        ⟨A9, c9, by simpa using hset, kz2.far (by show _ ≠ w.heap.size; omega) _, by
          have q := own_only hown2 ((Only.refl [w.heap.size] w2).setCell (p := ⟨w.heap.size, 2, none⟩) (.inl (by simp)) (.slice A9 (0 + l.length + 1) c9)) (fun i hi hm => by have h1 := List.mem_singleton.1 hm; rcases hat2 with h | h <;> rw [h] at hi <;> (try rcases hat1 with h' | h' <;> (try rw [h'] at hi)) <;> simp [Value.ownBlock] at hi <;> omega)
          simpa [encRs_snoc, encR] using q, hB2.setCell (Nat.le_refl _) _⟩
      simp only [Nat.zero_add] at hfin
      go_wp2
      go_meet
      exact hfin
  case rest =>
    obtain ⟨A9, c9, h1, h2, h3, h4⟩ := hcut
    have hcap9 := own_cap h3
    have c0 := h1.cell 0
    have c1 := h1.cell 1
    have c2 := h1.cell 2
    have e0 := h2.cell 0
    have e1 := h2.cell 1
    have e2 := h2.cell 2
    have g0 := h2.frozen 0
    have g1 := h2.frozen 1
    have g2 := h2.frozen 2
    simp only [List.getElem?_toArray, List.getElem?_cons_succ, List.getElem?_cons_zero] at c0 c1 c2 e0 e1 e2
    go_wp2_with fail
    have hne := own_blk_ne h3 h2 (by decide)
    have hf := ((h2.set_ 0 (.slice Af D0.ws.length cf)).set_ 1 (.int .i64 D0.wd)).set_ 2 (.slice A9 (l.length + 1) c9)
    have hO : Only [w.heap.size + 1 + 1] wc (((wc.setCell ⟨w.heap.size + 1 + 1, 0, none⟩ (.slice Af D0.ws.length cf)).setCell ⟨w.heap.size + 1 + 1, 1, none⟩ (.int .i64 D0.wd)).setCell ⟨w.heap.size + 1 + 1, 2, none⟩ (.slice A9 (l.length + 1) c9)) :=
      (((Only.refl _ wc).setCell (.inl (by simp)) _).setCell (.inl (by simp)) _).setCell (.inl (by simp)) _
    have hB9 := h4.trans (hO.below h4.size (fun i hi => by have := List.mem_singleton.1 hi; omega))
    have h3' := own_only h3 hO (fun i hi hm => by have := List.mem_singleton.1 hm; subst this; exact hne hi)
    refine bodyPost_ret (results_cell_row rfl _ _ (w.heap.size + 1 + 1) 74 _ (0, 0) _ rfl hf Try.underlying74 rfl (by kernel_rfl)) rfl ?_
    refine ⟨_, rfl, fun W2 ho => ⟨Af, cf, A9, c9, ?_, (hX.out.rows hB9 ho).1, ?_, k1, k2, ?_, hcap9.2⟩, hB9⟩
    · simp
    · have := Reads.of_own (own_only h3' ho (fun k hk hm => by have := hfp.out k hm; have := own_ge h3' k hk; omega))
      simpa using this
    · have := hcap9.1; simpa using this
end Go.Proofs.Ythhchccjpgpibaa
