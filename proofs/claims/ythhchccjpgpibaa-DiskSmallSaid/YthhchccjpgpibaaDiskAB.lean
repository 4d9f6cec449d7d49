/- Disks: the reference: Kept, New. -/
import Derived.Test.YthhchccjpgpibaaDiskAA
namespace Go.Proofs.Ythhchccjpgpibaa
open Go Go.RowKit Go.Shelf
set_option linter.unusedVariables false
set_option linter.unusedSimpArgs false
set_option maxHeartbeats 4000000
theorem info3 : (Try.prog.info? 3).map (fun i => (i.zero, i.size, i.bytes)) = some (some (.int .i64 0), 1, 8) := by kernel_rfl
theorem lit_reads1 (W : World) (e : TypeId) (x : Value) : Reads (W.alloc (.cells #[x] e)) (W.heap.size + 1) 1 (some ⟨W.heap.size, 0, none⟩) 1 [x] := ⟨rfl, fun _ => ⟨_, rfl, by simp, fun j u hu => by
  have h0 := (Blk.new W e #[x]).cell j
  rw [Addr.add_lit, Nat.zero_add, h0]
  simpa using hu⟩⟩
theorem below_undr {w W : World} (h : Below w.drew.heap.size w.drew W) : Below w.heap.size w W := ⟨h.os, h.tape, h.output, h.size, h.block⟩
/-- While the kept words are read. -/
def KeptAt (w : World) (D0 : Dst) (l : List RAct) (Af Ad : Option Addr) (cf cd : Nat) (j : Nat) (v3 : Value) (wr : World) : Prop :=
  wr.ownsRow w.heap.size 3 1 v3 j (((runR D0 l).ws.take j).map (Value.int .i64)) ∧ Below w.heap.size w wr ∧ Blk wr w.heap.size 74 #[.slice Af D0.ws.length cf, .int .i64 D0.wd, .slice Ad l.length cd]
set_option maxRecDepth 100000 in
theorem rkept {w : World} {v : Value} {D0 : Dst} {l : List RAct} (h : Rf w v D0 l) (hl : RI D0 l) : Calls Try.prog 54 #[v] w fun e w' => ∃ A c, e = .returned (.slice A D0.ws.length c) ∧ w'.ownsRow w.heap.size 3 1 (.slice A D0.ws.length c) D0.ws.length ((runR D0 l).ws.map (Value.int .i64)) ∧ Below w.heap.size w w' := by
  have hR := h
  obtain ⟨Af, cf, Ad, cd, rfl, hF, hA, k1, k2, k3, k4⟩ := h
  obtain ⟨j0, hj, hj0, hj1, hj2⟩ := info_parts info3
  have hB : Below w.heap.size w (w.alloc (.cells #[.slice Af D0.ws.length cf, .int .i64 D0.wd, .slice Ad l.length cd] 74)) := (Below.refl _ _).alloc (Nat.le_refl _) _
  have hb := Blk.new w 74 #[.slice Af D0.ws.length cf, .int .i64 D0.wd, .slice Ad l.length cd]
  have hD : D0.es = [] ∧ D0.ep = 0 := ⟨hl.es, hl.ep⟩
  have hok := hl.ok
  have hn2 := hl.n2
  have hni : (D0.ws.length : Int) ≤ 16 := by omega
  have hkn : (runR D0 l).ws.length = D0.ws.length := by
    have h1 : (flushW (runR D0 l).ws (runR D0 l).es).length = (seenF D0.ws l).length := by rw [read_is l D0 hD]
    rw [flushW_len, seenF_len] at h1
    exact h1
  replace hl := Lib.hid hl
  replace hR := Lib.hid hR
  clear k1 k2 k3 k4 hF hA
  have b0 := hb.cell 0
  simp only [List.getElem?_toArray, List.getElem?_cons_succ, List.getElem?_cons_zero] at b0
  have hK0 : KeptAt w D0 l Af Ad cf cd 0 (.slice none 0 0) (w.alloc (.cells #[.slice Af D0.ws.length cf, .int .i64 D0.wd, .slice Ad l.length cd] 74)) := ⟨by simpa using World.ownsRow_nil _ w.heap.size 3 1, hB, hb⟩
  go_enter Try.func54, Try.ntmps54
  go_wp2_with fail
  generalize w.alloc (.cells #[.slice Af D0.ws.length cf, .int .i64 D0.wd, .slice Ad l.length cd] 74) = W1 at *
  go_loopw [3, 4] (fun v3 i wr => ∃ j : Nat, j ≤ D0.ws.length ∧ i = .int .i64 j ∧ KeptAt w D0 l Af Ad cf cd j v3 wr) (fun _ i _ => D0.ws.length - (intOf i).toNat)
  case atStart => exact ⟨0, Nat.zero_le _, rfl, hK0⟩
  case round =>
    obtain ⟨j, hjl, rfl, hrow, hBr, hbx⟩ := hrel
    clear hK0 hb hB b0
    clear W1
    obtain ⟨A4, c4, rfl⟩ := own_form hrow
    have b0 := hbx.cell 0
    have b1 := hbx.cell 1
    have b2 := hbx.cell 2
    simp only [List.getElem?_toArray, List.getElem?_cons_succ, List.getElem?_cons_zero] at b0 b1 b2
    by_cases hlt : j < D0.ws.length
    · have t1 : (j : Int) < (D0.ws.length : Int) := by omega
      have t0 : 0 ≤ (j : Int) := by omega
      obtain ⟨y, hy⟩ : ∃ y, (runR D0 l).ws[j]? = some y := ⟨_, List.getElem?_eq_getElem (by omega)⟩
      have hsn : ((runR D0 l).ws.take (j + 1)) = ((runR D0 l).ws.take j) ++ [y] := take_snoc' hy
      have h57 := rflushed (hR.out.new (below_dr hBr)) hl.out (w := wr.drew)
      have h53 : ∀ (W : World) (k : Nat), IsFl l k → Below wr.drew.heap.size wr.drew W → Calls Try.prog 53 #[.agg #[.slice Af D0.ws.length cf, .int .i64 D0.wd, .slice Ad l.length cd], .int .i64 j, .int .i64 k] W fun e w' => e = .returned (.int .i64 y) ∧ Below W.heap.size W w' := fun W k hk hW =>
        rwritten ((hR.out.new (below_dr hBr)).new hW) hl.out j k hlt hk.1 (by rw [← kept_is hk hok D0 hD]; exact hy)
      have hfin : ∀ (W6 : World) (v' : Value) (w3 : World), Below wr.heap.size wr W6 → w3.ownsRow w.heap.size 3 1 v' (j + 1) (((runR D0 l).ws.take j).map (Value.int .i64) ++ [.int .i64 y]) →
          (W6.alloc (.cells #[.int .i64 y] 3)).grownBy w3 (Value.slice A4 j c4).ownBlock → KeptAt w D0 l Af Ad cf cd (j + 1) v' w3 := by
        intro W6 v' w3 hB6 hown hgrow
        have hBb := hB6.alloc (Nat.le_trans (Nat.le_refl _) hB6.size) (.cells #[.int .i64 y] 3)
        refine ⟨own_cast hown rfl (by rw [hsn]; simp), own_below ((below_and hBr hB6).alloc (below_and hBr hB6).size _) (by rw [World.size_alloc]; have := (below_and hBr hB6).size; omega) (row_new hrow hBb) hgrow, (hbx.below hBb hbx.lt).grown hgrow (own_blk_ne hrow hbx (by decide)).symm⟩
      have hrw : ∀ W6, Below wr.heap.size wr W6 → (W6.alloc (.cells #[.int .i64 y] 3)).ownsRow w.heap.size 3 1 (.slice A4 j c4) j (((runR D0 l).ws.take j).map (Value.int .i64)) := fun W6 hB6 => row_new hrow (hB6.alloc hB6.size _)
      have hszr := hBr.size
      clear hsn hy hrow
      replace h57 := Lib.hid h57
      replace h53 := Lib.hid h53
      replace hfin := Lib.hid hfin
      replace hrw := Lib.hid hrw
      go_wp2_with fail
      go_region_law (first
        | (go_simp; go_at_call 57; (with_reducible refine h57.out.mono ?_); rintro e W5 ⟨kf, rfl, hkf, hB5⟩; have hbx5 := hbx.drew.below hB5 hbx.lt; have d0 := hbx5.cell 0; have d1 := hbx5.cell 1; have d2 := hbx5.cell 2; simp only [List.getElem?_toArray, List.getElem?_cons_succ, List.getElem?_cons_zero] at d0 d1 d2; have h53w := h53.out W5 kf hkf hB5; replace h53w := Lib.hid h53w)
        | (go_simp; go_at_call 53; (with_reducible refine h53w.out.mono ?_); rintro e W6 ⟨rfl, hB6⟩; have hB56 : Below wr.heap.size wr W6 := below_undr (below_and hB5 hB6); have hr6 := hrw.out W6 hB56; have hbx6 := hbx5.below hB6 hbx5.lt; have f0 := hbx6.cell 0; have f1 := hbx6.cell 1; have f2 := hbx6.cell 2; simp only [List.getElem?_toArray, List.getElem?_cons_succ, List.getElem?_cons_zero] at f0 f1 f2; have hs6 := hB56.size; replace hr6 := Lib.hid hr6)
        | (refine step_append_any (w := W6.alloc (.cells #[.int .i64 y] 3)) (by rfl) _ _ 41 (by rfl) w.heap.size 3 j0 _ 1 8 Try.underlying41 hj hj0 hj1 hj2 rfl (by omega) (.slice A4 j c4) j (((runR D0 l).ws.take j).map (Value.int .i64)) (by rfl) ?_ (W6.heap.size + 1) (some ⟨W6.heap.size, 0, none⟩) 1 1 [.int .i64 y] (by rfl) ?_ ?_ ?_ ?_ ?_ ?_; (next => exact hr6.out); (next => exact lit_reads1 W6 3 _); (next => simp [Value.oneCell']); (next => (simp only [maxLen]; omega)); (next => omega); (next => (rw [World.size_alloc]; omega)); intro v' w3 hown hgrow hat; have hq := hfin.out W6 v' w3 hB56 hown hgrow; replace hq := Lib.hid hq))
      all_goals
        go_wp2_with fail
        go_roundw
        case rel => exact ⟨j + 1, by omega, by go_num, hq.out⟩
        case measure => simp [intOf]; omega
    · obtain rfl : j = D0.ws.length := by omega
      rw [List.take_of_length_le (by omega)] at hrow
      replace hrow := Lib.hid hrow
      go_wp2
      go_ret
      exact ⟨A4, c4, rfl, hrow.out, hBr⟩
end Go.Proofs.Ythhchccjpgpibaa
