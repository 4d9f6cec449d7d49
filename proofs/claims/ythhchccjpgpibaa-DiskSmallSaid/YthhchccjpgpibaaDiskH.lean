/- Disks: Copy, comparing. -/
import Derived.Test.YthhchccjpgpibaaDiskG
namespace Go.Proofs.Ythhchccjpgpibaa
open Go Go.RowKit Go.Shelf
set_option linter.unusedVariables false
set_option linter.unusedSimpArgs false
set_option maxHeartbeats 4000000
theorem Dsk.drew {w : World} {base d p : Nat} {v c : Value} {D : Dst} (h : Dsk w base d p v c D) : Dsk w.drew base d p v c D := ⟨h.hd.drew, h.hp.drew, h.hv, h.hc, h.bd, h.bp, h.ok⟩
set_option maxRecDepth 100000 in
theorem copy_dsk {w : World} {base d p : Nat} {v c : Value} {D : Dst} (h : Dsk w base d p v c D) :
    Calls Try.prog 22 #[.pointer (some ⟨d, 0, none⟩)] w fun e w' => ∃ d' p' v' c', e = .returned (.pointer (some ⟨d', 0, none⟩)) ∧ Dsk w' w.heap.size d' p' v' c' D ∧ Below w.heap.size w w' := by
  have hdl := h.hd.lt
  go_enter Try.func22, Try.ntmps22
  go_wp2_with (go_at_call 12; refine (kept_dsk h).mono ?_; rintro e w1 ⟨u, rfl, hu, hB⟩; obtain ⟨A, cap, rfl⟩ := own_form hu)
  have hD1 := h.new (hB.alloc hB.size (.cells #[.slice A D.ws.length cap] 66))
  have hB1 := hB.alloc hB.size (.cells #[.slice A D.ws.length cap] 66)
  have hu1 : (w1.alloc (.cells #[.slice A D.ws.length cap] 66)).ownsRow w.heap.size 36 1 (.slice A D.ws.length cap) D.ws.length (D.ws.map (Value.int .u32)) := own_only hu (only_of_below [] ((Below.refl _ _).alloc (Nat.le_refl _) _)) (by simp)
  have hp1 := Blk.new w1 66 #[.slice A D.ws.length cap]
  have c1 := hD1.c1
  have c3 := hD1.c3
  have hs1 := hB.size
  have hdl2 := hD1.hd.lt
  clear hu hB
  generalize hW : w1.alloc (.cells #[.slice A D.ws.length cap] 66) = w2 at *
  clear hW
  go_region_with (go_at_call 13; refine (cache_dsk hD1.drew).mono ?_; rintro e w3 ⟨u3, rfl, hu3, hB3⟩; obtain ⟨A3, cap3, rfl⟩ := own_form hu3; have e1 := (hB3.cell (p := ⟨d, 1, none⟩) hdl2).trans c1; have e3 := (hB3.cell (p := ⟨d, 3, none⟩) hdl2).trans c3)
  all_goals
    have k3 : Below w2.heap.size w2 w3 := ⟨hB3.os, hB3.tape, hB3.output, hB3.size, hB3.block⟩
    have k4 := k3.alloc k3.size (.cells #[.pointer (some ⟨w1.heap.size, 0, none⟩), .int .i64 D.wd, .slice A3 D.es.length cap3, .int .i64 D.ep] 62)
    have hf : Dsk (w3.alloc (.cells #[.pointer (some ⟨w1.heap.size, 0, none⟩), .int .i64 D.wd, .slice A3 D.es.length cap3, .int .i64 D.ep] 62)) w.heap.size w3.heap.size w1.heap.size (.slice A D.ws.length cap) (.slice A3 D.es.length cap3) D :=
      ⟨Blk.new _ _ _, (hp1.below k3 hp1.lt).alloc _, own_only hu1 (only_of_below [] k4) (by simp), own_base (own_only hu3 (only_of_below [] ((Below.refl _ _).alloc (Nat.le_refl _) _)) (by simp)) hB1.size, by have := k3.size; have := hB1.size; omega, hs1, h.ok⟩
    have hb := hB1.trans (k4.mono hB1.size)
    clear k3 k4 hu1 hu3 hB3 hD1 hp1 e1 e3 c1 c3
    go_wp2
    go_ret
    exact ⟨_, _, _, _, rfl, hf, hb⟩
end Go.Proofs.Ythhchccjpgpibaa
