/- Disks: what is done with a disk, in one form. -/
import Derived.Test.YthhchccjpgpibaaDiskI
namespace Go.Proofs.Ythhchccjpgpibaa
open Go Go.RowKit Go.Shelf
set_option linter.unusedVariables false
set_option linter.unusedSimpArgs false
set_option maxHeartbeats 4000000
/-- A write: what it answers, and the disk behind it. -/
def wOk (D : Dst) (b : Int) : Bool := decide (0 ≤ b) && decide (b < D.ws.length) && decide (D.es.length < 4096)
def wErr (D : Dst) (b : Int) : Int := if 0 ≤ b ∧ b < D.ws.length ∧ D.es.length = 4096 then 4 else 0
def wrt (D : Dst) (b x : Int) : Dst := if wOk D b then { D with es := D.es ++ [(b, cutW x D.wd, D.ep)] } else D
def bErr (D : Dst) : Int := if D.ep = 4096 then 4 else 0
def bar (D : Dst) : Dst := if D.ep = 4096 then D else { D with ep := D.ep + 1 }
def flu (D : Dst) : Dst := { D with ws := flushW D.ws D.es, es := [], ep := 0 }
section
variable {w : World} {base d : Nat} {D : Dst} {fp : List Nat}
theorem write_disk (h : Disk w base d fp D) (b x : Int) (x0 : 0 ≤ x) (x1 : x ≤ 4294967295) :
    Calls Try.prog 17 #[.pointer (some ⟨d, 0, none⟩), .int .i64 b, .int .u32 x] w fun e w' => e = .returned (.tuple #[.bool (wOk D b), .int .i64 (wErr D b)]) ∧ ∃ fp', Disk w' base d fp' (wrt D b x) ∧ (∀ k, k ∈ fp' → k ∈ fp ∨ w.heap.size ≤ k) ∧ Only fp w w' := by
  obtain ⟨p, v, c, h, rfl⟩ := h
  have hec := h.ok.ec
  by_cases hb : 0 ≤ b ∧ b < D.ws.length
  · by_cases hf : D.es.length < 4096
    · refine (write_ok h b x hb.1 hb.2 x0 x1 hf).mono ?_
      rintro e w' ⟨rfl, c', hD, hc, hO⟩
      have h1 : wOk D b = true := by simp [wOk, hb.1, hb.2, hf]
      refine ⟨by rw [h1, show wErr D b = 0 from if_neg (by omega)], fpOf d p v c', ?_, ?_, ?_⟩
      · exact ⟨p, v, c', by rw [wrt, if_pos h1]; exact hD, rfl⟩
      · intro k hk
        simp only [fpOf, List.mem_cons, List.mem_append, Option.mem_toList] at hk ⊢
        rcases hk with hk | hk | hk | hk
        · exact .inl (.inl hk)
        · exact .inl (.inr (.inl hk))
        · exact .inl (.inr (.inr (.inl hk)))
        · rcases hc k hk with h | h
          · exact .inl (.inr (.inr (.inr h)))
          · exact .inr h
      · refine hO.more (fun k hk _ => ?_)
        simp only [fpOf, List.mem_cons, List.mem_append, Option.mem_toList] at hk ⊢
        rcases hk with hk | hk
        · exact .inl hk
        · exact .inr (.inr (.inr hk))
    · refine (write_full h b x hb.1 hb.2 (by omega)).mono ?_
      rintro e w' ⟨rfl, rfl⟩
      have h1 : wOk D b = false := by simp [wOk, hf]
      exact ⟨by rw [h1, show wErr D b = 4 from if_pos ⟨hb.1, hb.2, by omega⟩], _, ⟨p, v, c, by rw [wrt, h1]; exact h, rfl⟩, fun k hk => .inl hk, Only.refl _ _⟩
  · refine (write_out h b x (by omega)).mono ?_
    rintro e w' ⟨rfl, rfl⟩
    have h1 : wOk D b = false := by
      rw [← Bool.not_eq_true]
      intro h
      simp [wOk] at h
      omega
    exact ⟨by rw [h1, show wErr D b = 0 from if_neg (by omega)], _, ⟨p, v, c, by rw [wrt, h1]; exact h, rfl⟩, fun k hk => .inl hk, Only.refl _ _⟩
theorem barrier_disk (h : Disk w base d fp D) : Calls Try.prog 26 #[.pointer (some ⟨d, 0, none⟩)] w fun e w' => e = .returned (.int .i64 (bErr D)) ∧ Disk w' base d fp (bar D) ∧ Only fp w w' := by
  obtain ⟨p, v, c, h, rfl⟩ := h
  have hp := h.ok.p2
  by_cases he : D.ep = 4096
  · refine (barrier_full h he).mono ?_
    rintro e w' ⟨rfl, rfl⟩
    exact ⟨by rw [show bErr D = 4 from if_pos he], ⟨p, v, c, by rw [bar, if_pos he]; exact h, rfl⟩, Only.refl _ _⟩
  · refine (barrier_dsk h (by omega)).mono ?_
    rintro e w' ⟨rfl, hD, hO⟩
    exact ⟨by rw [show bErr D = 0 from if_neg he], ⟨p, v, c, by rw [bar, if_neg he]; exact hD, rfl⟩, hO.more (fun k hk _ => by simp at hk; simp [fpOf, hk])⟩
theorem flush_disk (h : Disk w base d fp D) : Calls Try.prog 20 #[.pointer (some ⟨d, 0, none⟩)] w fun e w' => e = .returned (.int .i64 0) ∧ ∃ fp', Disk w' base d fp' (flu D) ∧ (∀ k, k ∈ fp' → k ∈ fp ∨ w.heap.size ≤ k) ∧ Only fp w w' := by
  obtain ⟨p, v, c, h, rfl⟩ := h
  refine (flush_dsk h).mono ?_
  rintro e w' ⟨rfl, hD, hO⟩
  refine ⟨rfl, _, ⟨p, v, _, hD, rfl⟩, fun k hk => .inl ?_, hO⟩
  simp only [fpOf, List.mem_cons, List.mem_append, Option.mem_toList] at hk ⊢
  rcases hk with hk | hk | hk | hk
  · exact .inl hk
  · exact .inr (.inl hk)
  · exact .inr (.inr (.inl hk))
  · cases hk
theorem read_disk (h : Disk w base d fp D) (b : Int) (hb : -9223372036854775808 ≤ b ∧ b ≤ 9223372036854775807) :
    Calls Try.prog 18 #[.pointer (some ⟨d, 0, none⟩), .int .i64 b] w fun e w' => e = .returned (.int .u32 (readD D b)) ∧ Below w.heap.size w w' := by
  obtain ⟨p, v, c, h, rfl⟩ := h
  exact read_dsk h b hb
theorem seen_disk (h : Disk w base d fp D) : Calls Try.prog 19 #[.pointer (some ⟨d, 0, none⟩)] w fun e w' => ∃ A cap, e = .returned (.slice A D.ws.length cap) ∧ w'.ownsRow w.heap.size 36 1 (.slice A D.ws.length cap) D.ws.length ((flushW D.ws D.es).map (Value.int .u32)) ∧ Below w.heap.size w w' := by
  obtain ⟨p, v, c, h, rfl⟩ := h
  refine (seen_dsk h).mono ?_
  rintro e w' ⟨u, rfl, hu, hB⟩
  obtain ⟨A, cap, rfl⟩ := own_form hu
  exact ⟨A, cap, rfl, hu, hB⟩
theorem kept_disk (h : Disk w base d fp D) : Calls Try.prog 12 #[.pointer (some ⟨d, 0, none⟩)] w fun e w' => ∃ A cap, e = .returned (.slice A D.ws.length cap) ∧ w'.ownsRow w.heap.size 36 1 (.slice A D.ws.length cap) D.ws.length (D.ws.map (Value.int .u32)) ∧ Below w.heap.size w w' := by
  obtain ⟨p, v, c, h, rfl⟩ := h
  refine (kept_dsk h).mono ?_
  rintro e w' ⟨u, rfl, hu, hB⟩
  obtain ⟨A, cap, rfl⟩ := own_form hu
  exact ⟨A, cap, rfl, hu, hB⟩
theorem cache_disk (h : Disk w base d fp D) : Calls Try.prog 13 #[.pointer (some ⟨d, 0, none⟩)] w fun e w' => ∃ A cap, e = .returned (.slice A D.es.length cap) ∧ w'.ownsRow w.heap.size 38 3 (.slice A D.es.length cap) D.es.length (encs D.es) ∧ Below w.heap.size w w' := by
  obtain ⟨p, v, c, h, rfl⟩ := h
  refine (cache_dsk h).mono ?_
  rintro e w' ⟨u, rfl, hu, hB⟩
  obtain ⟨A, cap, rfl⟩ := own_form hu
  exact ⟨A, cap, rfl, hu, hB⟩
theorem epoch_disk (h : Disk w base d fp D) : Calls Try.prog 14 #[.pointer (some ⟨d, 0, none⟩)] w fun e w' => e = .returned (.int .i64 D.ep) ∧ w = w' := by
  obtain ⟨p, v, c, h, rfl⟩ := h
  exact epoch_dsk h
theorem width_disk (h : Disk w base d fp D) : Calls Try.prog 24 #[.pointer (some ⟨d, 0, none⟩)] w fun e w' => e = .returned (.int .i64 D.wd) ∧ w = w' := by
  obtain ⟨p, v, c, h, rfl⟩ := h
  exact width_dsk h
theorem blocks_disk (h : Disk w base d fp D) : Calls Try.prog 25 #[.pointer (some ⟨d, 0, none⟩)] w fun e w' => e = .returned (.int .i64 (D.ws.length : Int)) ∧ Below w.heap.size w w' := by
  obtain ⟨p, v, c, h, rfl⟩ := h
  exact blocks_dsk h
theorem copy_disk (h : Disk w base d fp D) : Calls Try.prog 22 #[.pointer (some ⟨d, 0, none⟩)] w fun e w' => ∃ d' fp', e = .returned (.pointer (some ⟨d', 0, none⟩)) ∧ Disk w' w.heap.size d' fp' D ∧ Below w.heap.size w w' := by
  obtain ⟨p, v, c, h, rfl⟩ := h
  refine (copy_dsk h).mono ?_
  rintro e w' ⟨d', p', v', c', rfl, hD, hB⟩
  exact ⟨d', _, rfl, ⟨p', v', c', hD, rfl⟩, hB⟩
/-- The disk that New makes. -/
def mkD (wd : Int) (b : Nat) (l : List Int) : Dst := { wd := wd, ws := l.map (cutW · wd) ++ List.replicate (b - l.length) 0, es := [], ep := 0 }
theorem new_disk (b : Nat) (wd : Int) (A : Option Addr) (n c B : Nat) (l : List Int) (hrd : Reads w B 1 A n (l.map (Value.int .u32))) (hB : B ≤ w.heap.size) (b1 : 1 ≤ b) (b2 : b ≤ 16) (w1 : 1 ≤ wd) (w2 : wd ≤ 16) (hn : n ≤ b) (hl : ∀ x ∈ l, 0 ≤ x ∧ x ≤ 4294967295) :
    Calls Try.prog 16 #[.int .i64 b, .int .i64 wd, .slice A n c] w fun e w' => ∃ d fp, e = .returned (.tuple #[.pointer (some ⟨d, 0, none⟩), .int .i64 0]) ∧ Disk w' w.heap.size d fp (mkD wd b l) ∧ Below w.heap.size w w' := by
  refine (new_ok b wd A n c B l w hrd hB b1 b2 w1 w2 hn hl).mono ?_
  rintro e w' ⟨d, p, v, rfl, hD, hB⟩
  have hln : l.length = n := by have := hrd.1; simpa using this
  exact ⟨d, _, rfl, ⟨p, v, _, by rw [mkD, ← newWs_done, hln]; exact hD, rfl⟩, hB⟩
end
end Go.Proofs.Ythhchccjpgpibaa
