/- Disks: Kept, Cache, Epoch, Width, Blocks, Barrier. -/
import Derived.Test.YthhchccjpgpibaaDiskA
namespace Go.Proofs.Ythhchccjpgpibaa
open Go Go.RowKit
set_option linter.unusedVariables false
set_option linter.unusedSimpArgs false
set_option maxHeartbeats 4000000
section
variable {w : World} {base d p : Nat} {v c : Value} {D : Dst} {fp : List Nat}
theorem Dsk.c0 (h : Dsk w base d p v c D) : w.cell? ⟨d, 0, none⟩ = some (.pointer (some ⟨p, 0, none⟩)) := by have := h.hd.cell 0; simpa using this
theorem Dsk.c1 (h : Dsk w base d p v c D) : w.cell? ⟨d, 1, none⟩ = some (.int .i64 D.wd) := by have := h.hd.cell 1; simpa using this
theorem Dsk.c2 (h : Dsk w base d p v c D) : w.cell? ⟨d, 2, none⟩ = some c := by have := h.hd.cell 2; simpa using this
theorem Dsk.c3 (h : Dsk w base d p v c D) : w.cell? ⟨d, 3, none⟩ = some (.int .i64 D.ep) := by have := h.hd.cell 3; simpa using this
theorem Dsk.p0 (h : Dsk w base d p v c D) : w.cell? ⟨p, 0, none⟩ = some v := by have := h.hp.cell 0; simpa using this
theorem kept33 (h : Dsk w base d p v c D) : Calls Try.prog 33 #[.pointer (some ⟨p, 0, none⟩)] w fun e w' => ∃ u, e = .returned u ∧ w'.ownsRow w.heap.size 36 1 u D.ws.length (D.ws.map (Value.int .u32)) ∧ Below w.heap.size w w' := by
  have hp := h.p0
  obtain ⟨A, n, rfl⟩ := own_form h.hv
  have hrd := Reads.of_own h.hv
  have hok := h.ok.n2
  go_enter Try.func33, Try.ntmps33
  go_wp2_with (go_at_call 46; refine (clone46 A _ n _ _ _ hrd (words_one _) (by omega)).mono ?_; rintro e w1 ⟨u, rfl, hown, hB⟩)
  go_ret
  exact ⟨_, rfl, hown, hB⟩
theorem kept_dsk (h : Dsk w base d p v c D) : Calls Try.prog 12 #[.pointer (some ⟨d, 0, none⟩)] w fun e w' => ∃ u, e = .returned u ∧ w'.ownsRow w.heap.size 36 1 u D.ws.length (D.ws.map (Value.int .u32)) ∧ Below w.heap.size w w' := by
  have h0 := h.c0
  go_enter Try.func12, Try.ntmps12
  go_wp2_with (go_at_call 33; refine (kept33 h).mono ?_; rintro e w1 ⟨u, rfl, hown, hB⟩)
  go_ret
  exact ⟨_, rfl, hown, hB⟩
theorem cache_dsk (h : Dsk w base d p v c D) : Calls Try.prog 13 #[.pointer (some ⟨d, 0, none⟩)] w fun e w' => ∃ u, e = .returned u ∧ w'.ownsRow w.heap.size 38 3 u D.es.length (encs D.es) ∧ Below w.heap.size w w' := by
  have h0 := h.c2
  obtain ⟨A, n, rfl⟩ := own_form h.hc
  have hrd := Reads.of_own h.hc
  have hok := h.ok.ec
  go_enter Try.func13, Try.ntmps13
  go_wp2_with (go_at_call 34; refine (clone34 A _ n _ _ _ hrd (encs_one _) (by omega)).mono ?_; rintro e w1 ⟨u, rfl, hown, hB⟩)
  go_ret
  exact ⟨_, rfl, hown, hB⟩
theorem epoch_dsk (h : Dsk w base d p v c D) : Calls Try.prog 14 #[.pointer (some ⟨d, 0, none⟩)] w fun e w' => e = .returned (.int .i64 D.ep) ∧ w = w' := by
  have h0 := h.c3
  go_enter Try.func14, Try.ntmps14
  go_wp2
  go_ret
  exact ⟨rfl, rfl⟩
theorem width_dsk (h : Dsk w base d p v c D) : Calls Try.prog 24 #[.pointer (some ⟨d, 0, none⟩)] w fun e w' => e = .returned (.int .i64 D.wd) ∧ w = w' := by
  have h0 := h.c1
  go_enter Try.func24, Try.ntmps24
  go_wp2
  go_ret
  exact ⟨rfl, rfl⟩
theorem blocks_dsk (h : Dsk w base d p v c D) : Calls Try.prog 25 #[.pointer (some ⟨d, 0, none⟩)] w fun e w' => e = .returned (.int .i64 (D.ws.length : Int)) ∧ Below w.heap.size w w' := by
  go_enter Try.func25, Try.ntmps25
  go_wp2_with (go_at_call 12; refine (kept_dsk h).mono ?_; rintro e w1 ⟨u, rfl, hown, hB⟩; obtain ⟨A, n, rfl⟩ := own_form hown)
  go_ret
  exact ⟨rfl, hB⟩
theorem barrier_dsk (h : Dsk w base d p v c D) (hep : D.ep < 4096) : Calls Try.prog 26 #[.pointer (some ⟨d, 0, none⟩)] w fun e w' => e = .returned (.int .i64 0) ∧ Dsk w' base d p v c { D with ep := D.ep + 1 } ∧ Only [d] w w' := by
  have h0 := h.c3
  have hf := h.hd.frozen 3
  have hp1 := h.ok.p1
  have hset := h.hd.set_ 3 (.int .i64 (D.ep + 1))
  have hpp := h.hp.far (p := ⟨d, 3, none⟩) (h.hp.ne_ h.hd (by decide)) (.int .i64 (D.ep + 1))
  have hvv := h.hv.kept (row := some d) ⟨rfl, rfl, rfl, by simp [World.setCell], fun k _ hk => Below.heap_setCell _ _ _ _ (by rintro rfl; exact hk rfl)⟩ (.inr (own_blk_ne h.hv h.hd (by decide))) (w' := w.setCell ⟨d, 3, none⟩ (.int .i64 (D.ep + 1)))
  have hcc := h.hc.kept (row := some d) ⟨rfl, rfl, rfl, by simp [World.setCell], fun k _ hk => Below.heap_setCell _ _ _ _ (by rintro rfl; exact hk rfl)⟩ (.inr (own_blk_ne h.hc h.hd (by decide))) (w' := w.setCell ⟨d, 3, none⟩ (.int .i64 (D.ep + 1)))
  have hok : Dst.Ok { D with ep := D.ep + 1 } := { h.ok with p1 := by show 0 ≤ D.ep + 1; omega, p2 := by show D.ep + 1 ≤ 4096; omega }
  have hfin : Hid (Dsk (w.setCell ⟨d, 3, none⟩ (.int .i64 (D.ep + 1))) base d p v c { D with ep := D.ep + 1 }) := ⟨by simpa using hset, hpp, hvv, hcc, h.bd, h.bp, hok⟩
  clear hset hpp hvv hcc hok
  generalize D.ep = ep at *
  go_enter Try.func26, Try.ntmps26
  go_wp2
  go_ret
  exact ⟨rfl, hfin.out, (Only.refl [d] w).setCell (p := ⟨d, 3, none⟩) (.inl (by simp)) _⟩
theorem barrier_full (h : Dsk w base d p v c D) (hep : D.ep = 4096) : Calls Try.prog 26 #[.pointer (some ⟨d, 0, none⟩)] w fun e w' => e = .returned (.int .i64 4) ∧ w = w' := by
  have h0 := h.c3
  rw [hep] at h0
  go_enter Try.func26, Try.ntmps26
  go_wp2
  go_ret
  exact ⟨rfl, rfl⟩
end
end Go.Proofs.Ythhchccjpgpibaa
