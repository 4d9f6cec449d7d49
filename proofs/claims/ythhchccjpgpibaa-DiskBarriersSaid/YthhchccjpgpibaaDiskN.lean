/- Disks: law 5 (what is read is what was written last). -/
import Derived.Test.YthhchccjpgpibaaDiskM
namespace Go.Proofs.Ythhchccjpgpibaa
open Go Go.RowKit Go.Shelf
set_option linter.unusedVariables false
set_option linter.unusedSimpArgs false
set_option maxHeartbeats 4000000
theorem Disk.drew {w : World} {base d : Nat} {fp : List Nat} {D : Dst} (h : Disk w base d fp D) : Disk w.drew base d fp D := by
  obtain ⟨p, v, c, h, rfl⟩ := h
  exact ⟨p, v, c, h.drew, rfl⟩
section
variable {w : World} {base d : Nat} {D : Dst} {fp : List Nat} {l : List Int} {k : Nat}
theorem seen_n (h : Disk w base d fp D) (hk : D.ws.length = k) (hl : flushW D.ws D.es = l) : Calls Try.prog 19 #[.pointer (some ⟨d, 0, none⟩)] w fun e w' => ∃ A cap, e = .returned (.slice A k cap) ∧ w'.ownsRow w.heap.size 36 1 (.slice A k cap) k (l.map (Value.int .u32)) ∧ Below w.heap.size w w' := by
  have := seen_disk h
  rwa [hk, hl] at this
theorem kept_n (h : Disk w base d fp D) (hk : D.ws.length = k) (hl : D.ws = l) : Calls Try.prog 12 #[.pointer (some ⟨d, 0, none⟩)] w fun e w' => ∃ A cap, e = .returned (.slice A k cap) ∧ w'.ownsRow w.heap.size 36 1 (.slice A k cap) k (l.map (Value.int .u32)) ∧ Below w.heap.size w w' := by
  have := kept_disk h
  rwa [hk, hl] at this
theorem cache_n (h : Disk w base d fp D) {es : List Ent} (hk : D.es.length = k) (hl : D.es = es) : Calls Try.prog 13 #[.pointer (some ⟨d, 0, none⟩)] w fun e w' => ∃ A cap, e = .returned (.slice A k cap) ∧ w'.ownsRow w.heap.size 38 3 (.slice A k cap) k (encs es) ∧ Below w.heap.size w w' := by
  have := cache_disk h
  rwa [hk, hl] at this
theorem epoch_n (h : Disk w base d fp D) {e : Int} (hk : D.ep = e) : Calls Try.prog 14 #[.pointer (some ⟨d, 0, none⟩)] w fun r w' => r = .returned (.int .i64 e) ∧ w = w' := by
  have := epoch_disk h
  rwa [hk] at this
theorem read_n (h : Disk w base d fp D) (b : Int) {x : Int} (hb : -9223372036854775808 ≤ b ∧ b ≤ 9223372036854775807) (hk : readD D b = x) :
    Calls Try.prog 18 #[.pointer (some ⟨d, 0, none⟩), .int .i64 b] w fun e w' => e = .returned (.int .u32 x) ∧ Below w.heap.size w w' := by
  have := read_disk h b hb
  rwa [hk] at this
theorem flush_n (h : Disk w base d fp D) {D' : Dst} (hD : flu D = D') : Calls Try.prog 20 #[.pointer (some ⟨d, 0, none⟩)] w fun e w' => e = .returned (.int .i64 0) ∧ ∃ fp', Disk w' base d fp' D' ∧ (∀ k, k ∈ fp' → k ∈ fp ∨ w.heap.size ≤ k) ∧ Only fp w w' := by
  have := flush_disk h
  rwa [hD] at this
end
/-- What a run leaves. -/
structure RunEnd (w : World) (d : Nat) (L : Option Addr) (cap : Nat) (D : Dst) (l : List Int) (n : Nat) (fp : List Nat) (w' : World) : Prop where
  disk : Disk w' w.heap.size d fp D
  row : w'.ownsRow w.heap.size 36 1 (.slice L 3 cap) 3 (l.map (Value.int .u32)) ∧ Apart (.slice L 3 cap) fp
  below : Below w.heap.size w w'
  few : Few D n
  seen : flushW D.ws D.es = l
theorem RunAt.end_ {w w' : World} {d cap : Nat} {L : Option Addr} {f0 f1 f2 : Int} {acts : List ActV} (h : RunAt w d (.slice L 3 cap) (mkD 4 3 (first3 f0 f1 f2)) (first3 f0 f1 f2) (acts.take 60) 60 w') :
    ∃ fp, RunEnd w d L cap (runD (mkD 4 3 (first3 f0 f1 f2)) (acts.take 60)) (lastW (first3 f0 f1 f2) (acts.take 60)) 60 fp w' := by
  obtain ⟨fp, h1, h2, h3⟩ := h
  rw [List.take_take, Nat.min_self] at h1 h2
  have hl : (acts.take 60).length ≤ 60 := by rw [List.length_take]; omega
  have hf := (few_zero (first3 f0 f1 f2) rfl).run (acts.take 60) (by omega)
  have hs := seen_run (few_zero (first3 f0 f1 f2) rfl) (acts.take 60) (by omega)
  rw [mk3, show flushW (first3 f0 f1 f2) (mkD 4 3 (first3 f0 f1 f2)).es = first3 f0 f1 f2 from rfl] at hs
  exact ⟨fp, h1, h2, h3, ⟨hf.wd, hf.ws, by have := hf.es; omega, hf.p0, by have := hf.ep; omega⟩, hs⟩
set_option maxRecDepth 100000 in
theorem law_reads (f0 f1 f2 : Int) (a0 : 0 ≤ f0 ∧ f0 ≤ 255) (a1 : 0 ≤ f1 ∧ f1 ≤ 255) (a2 : 0 ≤ f2 ∧ f2 ≤ 255) (A : Option Addr) (n c : Nat) (acts : List ActV) (w : World) (hrd : Reads w w.heap.size 3 A n (encAs acts)) (hn : n ≤ c) (hc : c ≤ 9223372036854775807) (hok : ∀ a ∈ acts, ActV.Ok a) :
    Calls Try.prog 5 #[.agg #[.int .u8 f0, .int .u8 f1, .int .u8 f2], .slice A n c] w fun e w' => e = .returned (.bool true) ∧ Below w.heap.size w w' := by
  have hB0 := (Below.refl _ w).alloc (Nat.le_refl _) (.cells #[.int .u8 f0, .int .u8 f1, .int .u8 f2] 22)
  have hbox := Blk.new w 22 #[.int .u8 f0, .int .u8 f1, .int .u8 f2]
  have hbl : w.heap.size < (w.alloc (.cells #[.int .u8 f0, .int .u8 f1, .int .u8 f2] 22)).heap.size := by simp
  go_enter Try.func5, Try.ntmps5
  go_wp2_with (first
    | (go_at_call 10; refine (awake_ok _).mono ?_; rintro e w1 ⟨rfl, hB1⟩; replace hbox := hbox.below hB1 hbl; replace hB0 := below_and hB0 hB1; have q0 := hbox.cell 0; have q1 := hbox.cell 1; have q2 := hbox.cell 2; simp only [List.getElem?_toArray, List.getElem?_cons_zero, List.getElem?_cons_succ] at q0 q1 q2; clear hB1)
    | (go_at_call 11; refine (run_ok f0 f1 f2 a0 a1 a2 A n c _ acts _ (hrd.below hB0) hB0.size hn hc hok).mono ?_; rintro e w2 ⟨d, L, cap, rfl, hR⟩; obtain ⟨fp, hE⟩ := hR.end_; have hbs := hB0.size; replace hB0 := below_and hB0 hE.below; obtain ⟨hD, hr, _, hf, hs⟩ := hE; clear hR hbox q0 q1 q2; generalize runD (mkD 4 3 (first3 f0 f1 f2)) (List.take 60 acts) = DD at *; generalize lastW (first3 f0 f1 f2) (List.take 60 acts) = l at *; generalize w1.heap.size = bs at *)
    | (go_at_call 19; refine (seen_n hD hf.ws hs).mono ?_; rintro e w3 ⟨S, cs, rfl, hS, hB2⟩; replace hB0 := below_and hB0 hB2; replace hD := hD.new hB2; replace hr := row_new' hr hB2; clear hB2)
    | (go_at_call 15; refine (words_eq l hS hr.1 (by omega)).mono ?_; rintro e w3 ⟨rfl, hB2⟩; replace hB0 := below_and hB0 hB2; replace hD := hD.new hB2; replace hr := row_new' hr hB2; clear hB2 hS)
    )
  obtain ⟨g, cap2, hv, hgw, _⟩ := hr.1.form (by omega)
  obtain ⟨rfl, rfl⟩ : L = some ⟨g, 0, none⟩ ∧ cap = cap2 := by injection hv with a b c; exact ⟨a, c⟩
  clear hv
  have hl3 : l.length = 3 := by rw [← hs, flushW_len]; exact hf.ws
  have hrd3 : ∀ b : Nat, b < 3 → readD DD b = l[b]?.getD 0 := by
    intro b hb
    unfold readD
    rw [if_pos (by have := hf.ws; omega), Int.toNat_natCast, hs]
  have hrn : readD DD 3 = 0 := by unfold readD; rw [if_neg (by have := hf.ws; omega)]
  have hrm : readD DD (-1) = 0 := by unfold readD; rw [if_neg (by omega)]
  replace hrd3 := Lib.hid hrd3
  replace hrn := Lib.hid hrn
  replace hrm := Lib.hid hrm
  go_loopw [25] (fun i wr => ∃ k : Nat, k ≤ 3 ∧ i = .int .i64 k ∧ Disk wr bs d fp DD ∧ (wr.ownsRow bs 36 1 (.slice (some ⟨g, 0, none⟩) 3 cap) 3 (l.map (Value.int .u32)) ∧ Apart (.slice (some ⟨g, 0, none⟩) 3 cap) fp) ∧ Below w.heap.size w wr) (fun i _ => 3 - (intOf i).toNat)
  case atStart => exact ⟨0, by omega, rfl, hD, hr, hB0⟩
  case round =>
    clear hD hr hB0
    obtain ⟨k, hk, rfl, hD, hr, hB0⟩ := hrel
    by_cases hlt : k < 3
    · have hlt2 : (k : Int) < 3 := by omega
      have hk0 : 0 ≤ (k : Int) := by omega
      have hkk := hrd3.out k hlt
      have hc := hr.1.cellAt k (by omega)
      rw [List.getElem?_map, List.getElem?_eq_getElem (by omega), Option.map_some] at hc
      rw [List.getElem?_eq_getElem (by omega), Option.getD_some] at hkk
      generalize l[k]'(by omega) = x at hc hkk
      replace hkk := Lib.hid hkk
      have hgl : g < wr.heap.size := (hr.1.lt g rfl).2
      go_wp2
      go_region_with (go_at_call 18; (first | refine (read_n hD k (by omega) hkk.out).mono ?_ | refine (read_n hD.drew k (by omega) hkk.out).mono ?_); rintro e w3 ⟨rfl, hB2⟩; have hB3 : Below wr.heap.size wr w3 := ⟨hB2.os, hB2.tape, hB2.output, hB2.size, hB2.block⟩; have hc3 := (hB3.cell (p := ⟨g, k, none⟩) hgl).trans hc; have hD3 := hD.new hB3; have hr3 := row_new' hr hB3; have hb3 := below_and hB0 hB3)
      all_goals
        go_wp2
        go_roundw
        case rel => first | exact ⟨k + 1, by omega, by go_num, hD3, hr3, hb3⟩ | exact ⟨k + 1, by omega, by go_num, hD3.drew, ⟨hr3.1, hr3.2⟩, ⟨hb3.os, hb3.tape, hb3.output, hb3.size, hb3.block⟩⟩
        case measure => simp [intOf]; omega
    · obtain rfl : k = 3 := by omega
      have hw2 : (flu DD).ws.length = 3 := by show (flushW _ _).length = 3; rw [flushW_len]; exact hf.ws
      have hs2 : flushW (flu DD).ws (flu DD).es = l := by rw [show flushW (flu DD).ws (flu DD).es = flushW DD.ws DD.es from rfl]; exact hs
      have hk2 : (flu DD).ws = l := hs
      replace hs := Lib.hid hs
      replace hk2 := Lib.hid hk2
      replace hs2 := Lib.hid hs2
      go_wp2_with (first
        | (go_at_call 18; refine (read_n hD 3 (by omega) hrn.out).mono ?_; rintro e w3 ⟨rfl, hB2⟩; replace hB0 := below_and hB0 hB2; replace hD := hD.new hB2; replace hr := row_new' hr hB2; clear hB2 hrn)
        | (go_at_call 18; refine (read_n hD (-1) (by omega) hrm.out).mono ?_; rintro e w3 ⟨rfl, hB2⟩; replace hB0 := below_and hB0 hB2; replace hD := hD.new hB2; replace hr := row_new' hr hB2; clear hB2)
        | (go_at_call 20; refine (flush_n hD rfl).mono ?_; rintro e w3 ⟨rfl, fp2, hD2, hf2, hO2⟩; replace hr := row_step' hr hO2 hf2; replace hB0 := hB0.trans (hO2.below (B := w.heap.size) hB0.size (fun k hk => by have := (hD.ge k hk).1; omega)); clear hO2 hf2 hD)
        | (go_at_call 19; refine (seen_n hD2 hw2 hs2.out).mono ?_; rintro e w3 ⟨S2, cs2, rfl, hS, hB2⟩; replace hB0 := below_and hB0 hB2; replace hD2 := hD2.new hB2; replace hr := row_new' hr hB2; clear hB2)
        | (go_at_call 12; refine (kept_n hD2 hw2 hk2.out).mono ?_; rintro e w3 ⟨S3, cs3, rfl, hS, hB2⟩; replace hB0 := below_and hB0 hB2; replace hD2 := hD2.new hB2; replace hr := row_new' hr hB2; clear hB2)
        | (go_at_call 15; refine (words_eq l hS hr.1 (by omega)).mono ?_; rintro e w3 ⟨rfl, hB2⟩; replace hB0 := below_and hB0 hB2; replace hD2 := hD2.new hB2; replace hr := row_new' hr hB2; clear hB2 hS)
        | (go_at_call 13; refine (cache_n (k := 0) (es := []) hD2 rfl rfl).mono ?_; rintro e w3 ⟨S4, cs4, rfl, _, hB2⟩; replace hB0 := below_and hB0 hB2; replace hD2 := hD2.new hB2; clear hB2 hr)
        | (go_at_call 14; refine (epoch_n (e := 0) hD2 rfl).mono ?_; rintro e w' ⟨rfl, rfl⟩)
        )
      go_ret
      exact ⟨rfl, hB0⟩
end Go.Proofs.Ythhchccjpgpibaa
