/- Disks: a disk and that of the reference are the same. -/
import Derived.Test.YthhchccjpgpibaaDiskAB
namespace Go.Proofs.Ythhchccjpgpibaa
open Go Go.RowKit Go.Shelf
set_option linter.unusedVariables false
set_option linter.unusedSimpArgs false
set_option maxHeartbeats 4000000
theorem run_wd (l : List RAct) : ∀ D0 : Dst, (runR D0 l).wd = D0.wd ∧ (runR D0 l).ws.length = D0.ws.length := by
  induction l with
  | nil => intro D0; exact ⟨rfl, rfl⟩
  | cons a l ih =>
    intro D0
    have h := ih (stepR D0 a)
    have h2 : (stepR D0 a).wd = D0.wd ∧ (stepR D0 a).ws.length = D0.ws.length := by
      unfold stepR
      split
      · exact ⟨rfl, rfl⟩
      · split
        · exact ⟨rfl, rfl⟩
        · exact ⟨rfl, flushW_len _ _⟩
    exact ⟨h.1.trans h2.1, h.2.trans h2.2⟩
theorem reads_ent {w : World} {B n k : Nat} {A : Option Addr} {es : List Ent} (h : Reads w B 3 A n (encs es)) (hn : es.length = n) (hk : k < n) :
    ∃ ad x, A = some ad ∧ ad.block < B ∧ es[k]? = some x ∧ w.cell? (ad.add (k * 3)) = some (.int .i64 x.1) ∧ w.cell? ⟨(ad.add (k * 3)).block, (ad.add (k * 3)).off + 1, none⟩ = some (.int .u32 x.2.1) ∧ w.cell? ⟨(ad.add (k * 3)).block, (ad.add (k * 3)).off + 2, none⟩ = some (.int .i64 x.2.2) := by
  obtain ⟨ad, e, hb, hc⟩ := h.2 (by omega)
  have hx : es[k]? = some (es[k]'(by omega)) := List.getElem?_eq_getElem (by omega)
  generalize es[k]'(by omega) = x at hx
  have h1 : ∀ j, j ≠ 0 → (⟨(ad.add (k * 3)).block, (ad.add (k * 3)).off + j, none⟩ : Addr) = ad.add (k * 3 + j) := by
    intro j hj
    rw [← add_of_add]
    unfold Addr.add
    rw [if_neg hj]
  refine ⟨ad, x, e, hb, hx, ?_, ?_, ?_⟩
  · exact hc (k * 3 + 0) _ (by have := encs_at es k 0 x hx (by omega); simpa [encE] using this)
  · rw [h1 1 (by decide)]
    exact hc (k * 3 + 1) _ (by have := encs_at es k 1 x hx (by omega); simpa [encE] using this)
  · rw [h1 2 (by decide)]
    exact hc (k * 3 + 2) _ (by have := encs_at es k 2 x hx (by omega); simpa [encE] using this)
/-- While a disk is compared: the box. -/
def SmAt (w : World) (D0 : Dst) (l : List RAct) (Af Ad : Option Addr) (cf cd : Nat) (W8 wr : World) : Prop := Below W8.heap.size W8 wr ∧ Blk wr w.heap.size 74 #[.slice Af D0.ws.length cf, .int .i64 D0.wd, .slice Ad l.length cd]
set_option maxRecDepth 100000 in
theorem same_ok {w : World} {v : Value} {D0 : Dst} {l : List RAct} {base d : Nat} {fp : List Nat} (hT : Disk w base d fp (runR D0 l)) (h : Rf w v D0 l) (hl : RI D0 l) : Calls Try.prog 44 #[.pointer (some ⟨d, 0, none⟩), v] w fun e w' => e = .returned (.bool true) ∧ Below w.heap.size w w' := by
  have hR := h
  obtain ⟨Af, cf, Ad, cd, rfl, hF, hA, k1, k2, k3, k4⟩ := h
  have hD : D0.es = [] ∧ D0.ep = 0 := ⟨hl.es, hl.ep⟩
  have hB : Below w.heap.size w (w.alloc (.cells #[.slice Af D0.ws.length cf, .int .i64 D0.wd, .slice Ad l.length cd] 74)) := (Below.refl _ _).alloc (Nat.le_refl _) _
  have hb := Blk.new w 74 #[.slice Af D0.ws.length cf, .int .i64 D0.wd, .slice Ad l.length cd]
  have hrun := run_wd l D0
  have hseen := read_is l D0 hD
  have hlen := run_len D0 hD l
  have hfew := hl.few
  have hn2 := hl.n2
  have hOk := hT.ok
  have h51 := rcache (hR.new hB) hl
  have hC13 : ∀ W, Below w.heap.size w W → _ := fun W hW => cache_disk (hT.new hW)
  have hC12 : ∀ W, Below w.heap.size w W → _ := fun W hW => kept_disk (hT.new hW)
  have hC19 : ∀ W, Below w.heap.size w W → _ := fun W hW => seen_disk (hT.new hW)
  have hC14 : ∀ W, Below w.heap.size w W → _ := fun W hW => epoch_disk (hT.new hW)
  have hC24 : ∀ W, Below w.heap.size w W → _ := fun W hW => width_disk (hT.new hW)
  have hC25 : ∀ W, Below w.heap.size w W → _ := fun W hW => blocks_disk (hT.new hW)
  have hC54 : ∀ W, Below w.heap.size w W → _ := fun W hW => rkept (hR.new hW) hl
  have hC42 : ∀ W, Below w.heap.size w W → ∀ b : Int, _ := fun W hW b => rread (hR.new hW) hl b
  have heb := hOk.eb
  have hwb := hOk.wb
  have hfb : ∀ x ∈ seenF D0.ws l, 0 ≤ x ∧ x ≤ 65535 := by
    have := flushW_bd _ hOk (runR D0 l).es.length
    rw [List.take_length, hseen] at this
    exact this
  simp only [hrun.1, hrun.2, hseen] at hC12 hC13 hC14 hC19 hC24 hC25 hC54
  have hfl : (seenF D0.ws l).length = D0.ws.length := seenF_len _ _
  have hkl := hrun.2
  generalize (runR D0 l).es = E at *
  generalize (runR D0 l).ep = P at *
  generalize (runR D0 l).ws = K at *
  clear hF hA k1 k2 k3 k4 hT hOk hseen hrun
  obtain ⟨hE1, hP0, hP1⟩ := hlen
  have hEi : E.length ≤ 1000 := by omega
  have hni : (D0.ws.length : Int) ≤ 16 := by omega
  have b0 := hb.cell 0
  have b1 := hb.cell 1
  have b2 := hb.cell 2
  simp only [List.getElem?_toArray, List.getElem?_cons_succ, List.getElem?_cons_zero] at b0 b1 b2
  replace h51 := Lib.hid h51
  replace hC12 := Lib.hid hC12
  replace hC13 := Lib.hid hC13
  replace hC19 := Lib.hid hC19
  replace hC14 := Lib.hid hC14
  replace hC24 := Lib.hid hC24
  replace hC25 := Lib.hid hC25
  replace hC54 := Lib.hid hC54
  replace hC42 := Lib.hid hC42
  replace hwb := Lib.hid hwb
  replace hfb := Lib.hid hfb
  replace heb := Lib.hid heb
  replace hl := Lib.hid hl
  replace hR := Lib.hid hR
  go_enter Try.func44, Try.ntmps44
  go_wp2_with fail
  generalize w.alloc (.cells #[.slice Af D0.ws.length cf, .int .i64 D0.wd, .slice Ad l.length cd] 74) = W0 at *
  go_upto_region 4 with (first
    | (go_at_call 51; (with_reducible refine h51.out.mono ?_); rintro e W1 ⟨A1, c1, rfl, hr1, hB1⟩; clear h51; have hX1 := below_and hB hB1; have hb1 := hb.below hB1 hb.lt; clear b0 b1 b2; have b0 := hb1.cell 0; have b1 := hb1.cell 1; have b2 := hb1.cell 2; simp only [List.getElem?_toArray, List.getElem?_cons_succ, List.getElem?_cons_zero] at b0 b1 b2; have h13 := hC13.out W1 hX1; replace h13 := Lib.hid h13; replace hr1 := Reads.of_own hr1)
    | (go_at_call 13; (with_reducible refine h13.out.mono ?_); rintro e W2 ⟨A2, c2, rfl, hr2, hB2⟩; clear h13; have hX2 := below_and hX1 hB2; have h12 := hC12.out W2 hX2; replace h12 := Lib.hid h12; replace hr2 := Reads.of_own hr2)
    | (go_at_call 12; (with_reducible refine h12.out.mono ?_); rintro e W3 ⟨A3, c3, rfl, hr3, hB3⟩; clear h12; have hX3 := below_and hX2 hB3; have h19 := hC19.out W3 hX3; replace h19 := Lib.hid h19; replace hr3 := Reads.of_own hr3)
    | (go_at_call 19; (with_reducible refine h19.out.mono ?_); rintro e W4 ⟨A4, c4, rfl, hr4, hB4⟩; clear h19; have hX4 := below_and hX3 hB4; have hb4 := (((hb1.below hB2 hb1.lt).below hB3 (hb1.below hB2 hb1.lt).lt).below hB4 ((hb1.below hB2 hb1.lt).below hB3 (hb1.below hB2 hb1.lt).lt).lt); clear b0 b1 b2; have b0 := hb4.cell 0; have b1 := hb4.cell 1; have b2 := hb4.cell 2; simp only [List.getElem?_toArray, List.getElem?_cons_succ, List.getElem?_cons_zero] at b0 b1 b2; have h54 := hC54.out W4 hX4; replace h54 := Lib.hid h54; replace hr4 := Reads.of_own hr4)
    | (go_at_call 54; (with_reducible refine h54.out.mono ?_); rintro e W8 ⟨A5, c5, rfl, hr5, hB5⟩; clear h54; replace hr5 := Reads.of_own hr5))
  have hX8 := below_and hX4 hB5
  have hb8 := hb4.below hB5 hb4.lt
  have hr1' : Reads W8 W8.heap.size 3 A1 E.length (encRs E) := (((((hr1.below hB2).more hB2.size).below hB3).more hB3.size).below hB4 |>.more hB4.size).below hB5 |>.more hB5.size
  have hr2' : Reads W8 W8.heap.size 3 A2 E.length (encs E) := ((((hr2.below hB3).more hB3.size).below hB4).more hB4.size).below hB5 |>.more hB5.size
  have hr3' : Reads W8 W8.heap.size 1 A3 D0.ws.length (K.map (Value.int .u32)) := ((hr3.below hB4).more hB4.size).below hB5 |>.more hB5.size
  have hr4' : Reads W8 W8.heap.size 1 A4 D0.ws.length ((seenF D0.ws l).map (Value.int .u32)) := (hr4.below hB5).more hB5.size
  clear hr1 hr2 hr3 hr4 hB1 hB2 hB3 hB4 hB5 hX1 hX2 hX3 hX4 hb1 hb4 b0 b1 b2 hC12 hC13 hC19 hC54 hb hB
  clear W1 W2 W3 W4
  have hY14 : ∀ x : Ext W8, Calls Try.prog 14 #[.pointer (some ⟨d, 0, none⟩)] x.w fun e w' => e = .returned (.int .i64 P) ∧ x.w = w' := fun x => hC14.out x.w (below_and hX8 x.below)
  have hY24 : ∀ x : Ext W8, Calls Try.prog 24 #[.pointer (some ⟨d, 0, none⟩)] x.w fun e w' => e = .returned (.int .i64 D0.wd) ∧ x.w = w' := fun x => hC24.out x.w (below_and hX8 x.below)
  have hY25 : ∀ x : Ext W8, Calls Try.prog 25 #[.pointer (some ⟨d, 0, none⟩)] x.w fun e w' => e = .returned (.int .i64 (D0.ws.length : Int)) ∧ Below x.w.heap.size x.w w' := fun x => hC25.out x.w (below_and hX8 x.below)
  have b0 := fun x : Ext W8 => (hb8.below x.below hb8.lt).cell 0
  have b1 := fun x : Ext W8 => (hb8.below x.below hb8.lt).cell 1
  simp only [List.getElem?_toArray, List.getElem?_cons_succ, List.getElem?_cons_zero] at b0 b1
  replace hY14 := Lib.hid hY14
  replace hY24 := Lib.hid hY24
  replace hY25 := Lib.hid hY25
  have hBox := hb8
  replace hBox := Lib.hid hBox
  clear hb8 hC14 hC24 hC25
  refine wp_region_grown (by kernel_rfl) (by kernel_rfl) (by kernel_rfl) ?_
  repeat (go_big_quiet_step (first
    | (go_at_call 14; with_reducible exact grown_of_same (hY14.out _))
    | (go_at_call 24; with_reducible exact grown_of_same (hY24.out _))
    | (go_at_call 25; with_reducible exact grown_of (hY25.out _))))
  refine wpQuiet_nil ?_
  rintro _ ⟨x, rfl⟩
  have hS0 : SmAt w D0 l Af Ad cf cd W8 x.w := ⟨x.below, hBox.out.below x.below hBox.out.lt⟩
  generalize x.w = Wx at *
  clear hY14 hY24 hY25 b0 b1
  go_wp2_with fail
  go_loopw [73] (fun i wr => ∃ j : Nat, j ≤ E.length ∧ i = .int .i64 j ∧ SmAt w D0 l Af Ad cf cd W8 wr) (fun i _ => E.length - (intOf i).toNat)
  case atStart => exact ⟨0, Nat.zero_le _, rfl, hS0⟩
  case round =>
    obtain ⟨j, hjl, rfl, hBr, hbx⟩ := hrel
    clear hS0
    clear Wx
    by_cases hlt : j < E.length
    · have t1 : (j : Int) < (E.length : Int) := by omega
      have t0 : 0 ≤ (j : Int) := by omega
      obtain ⟨ad2, x, hA2, hab2, hx, p0, p1, p2⟩ := reads_ent (hr2'.below hBr) rfl hlt
      subst hA2
      obtain ⟨ad1, hA1, hab1, q0, q1, q2⟩ := reads_done (hr1'.below hBr) hx
      subst hA1
      have hxb := heb.out x (List.mem_of_getElem? hx)
      obtain ⟨x0, x1, x2⟩ := x
      dsimp only at p0 p1 p2 q0 q1 q2 hxb
      obtain ⟨v0, v1, v2, v3, v4, v5⟩ := hxb
      have hBn : Below wr.heap.size wr (wr.alloc (.cells #[.int .i64 x0, .int .u32 x1, .int .i64 x2] 38)) := (Below.refl _ _).alloc (Nat.le_refl _) _
      have hbn := hbx.below hBn hbx.lt
      have hBm := below_and hBr hBn
      have hw8 := hBr.size
      have hn := Blk.new wr 38 #[.int .i64 x0, .int .u32 x1, .int .i64 x2]
      have n0 := hn.cell 0
      have n1 := hn.cell 1
      have n2 := hn.cell 2
      simp only [List.getElem?_toArray, List.getElem?_cons_succ, List.getElem?_cons_zero] at n0 n1 n2
      have r0 := (hBn.cell (p := ad1.add (j * 3)) (by rw [block_of_add]; omega)).trans q0
      have r1 := (hBn.cell (p := ⟨(ad1.add (j * 3)).block, (ad1.add (j * 3)).off + 1, none⟩) (by show (ad1.add (j * 3)).block < _; rw [block_of_add]; omega)).trans q1
      have r2 := (hBn.cell (p := ⟨(ad1.add (j * 3)).block, (ad1.add (j * 3)).off + 2, none⟩) (by show (ad1.add (j * 3)).block < _; rw [block_of_add]; omega)).trans q2
      clear hx q0 q1 q2 hn
      go_upto_region 9 with (fail)
      generalize wr.alloc (.cells #[.int .i64 x0, .int .u32 x1, .int .i64 x2] 38) = Wn at *
      go_quiet (fail)
      go_wp2_with fail
      go_roundw
      case rel => exact ⟨j + 1, by omega, by go_num, below_drN hBm _, hbn.drewN _⟩
      case measure => simp [intOf]; omega
    · obtain rfl : j = E.length := by omega
      go_wp2_with fail
      have hS1 : SmAt w D0 l Af Ad cf cd W8 wr := ⟨hBr, hbx⟩
      clear hBr hbx
      go_loopw [110] (fun i wr => ∃ j : Nat, j ≤ D0.ws.length ∧ i = .int .i64 j ∧ SmAt w D0 l Af Ad cf cd W8 wr) (fun i _ => D0.ws.length - (intOf i).toNat)
      case atStart => exact ⟨0, Nat.zero_le _, rfl, hS1⟩
      case round =>
        clear hS1
        obtain ⟨j, hjl, rfl, hBr, hbx⟩ := hrel
        by_cases hlt : j < D0.ws.length
        · have t1 : (j : Int) < (D0.ws.length : Int) := by omega
          have t0 : 0 ≤ (j : Int) := by omega
          obtain ⟨a3, y, hA3, hb3, hy, q3⟩ := reads_first (hr3'.below hBr) hlt
          obtain ⟨a5, y', hA5, hb5, hy', q5⟩ := reads_first (hr5.below hBr) hlt
          obtain rfl : y = y' := by rw [hy] at hy'; injection hy'
          obtain ⟨a4, z, hA4, hb4, hz, q4⟩ := reads_first (hr4'.below hBr) hlt
          subst hA3 hA4 hA5
          obtain ⟨y0, y1⟩ := hwb.out y (List.mem_of_getElem? hy)
          obtain ⟨z0, z1⟩ := hfb.out z (List.mem_of_getElem? hz)
          have hrz : readR D0 l (j : Int) = z := by
            unfold readR
            rw [if_pos ⟨t0, t1⟩, Int.toNat_natCast, hz]; rfl
          have hY42 : ∀ x : Ext wr, Calls Try.prog 42 #[.agg #[.slice Af D0.ws.length cf, .int .i64 D0.wd, .slice Ad l.length cd], .int .i64 j] x.w fun e w' => e = .returned (.int .i64 z) ∧ Below x.w.heap.size x.w w' := fun x => hrz ▸ hC42.out x.w (below_and (below_and hX8 hBr) x.below) (j : Int)
          have b0 := fun x : Ext wr => (hbx.below x.below hbx.lt).cell 0
          have b1 := fun x : Ext wr => (hbx.below x.below hbx.lt).cell 1
          have b2 := fun x : Ext wr => (hbx.below x.below hbx.lt).cell 2
          have q3' := fun x : Ext wr => (Ext.cell q3 (by rw [block_of_add]; have := hBr.size; omega) x)
          have q4' := fun x : Ext wr => (Ext.cell q4 (by rw [block_of_add]; have := hBr.size; omega) x)
          have q5' := fun x : Ext wr => (Ext.cell q5 (by rw [block_of_add]; have := hBr.size; omega) x)
          simp only [List.getElem?_toArray, List.getElem?_cons_succ, List.getElem?_cons_zero] at b0 b1 b2
          have hBox2 := hbx
          replace hBox2 := Lib.hid hBox2
          replace hY42 := Lib.hid hY42
          replace hBr := Lib.hid hBr
          clear hbx hy hz hy' hrz q3 q4 q5
          go_wp2_with fail
          refine wp_region_grown (by kernel_rfl) (by kernel_rfl) (by kernel_rfl) ?_
          repeat (go_big_quiet_step (first | (go_at_call 42; with_reducible exact grown_of (hY42.out _))))
          refine wpQuiet_nil ?_
          rintro _ ⟨x, rfl⟩
          go_wp2_with fail
          go_roundw
          case rel => exact ⟨j + 1, by omega, by go_num, below_and hBr.out x.below, hBox2.out.below x.below hBox2.out.lt⟩
          case measure => simp [intOf]; omega
        · obtain rfl : j = D0.ws.length := by omega
          go_wp2_with fail
          go_ret
          exact ⟨rfl, below_and hX8 hBr⟩
end Go.Proofs.Ythhchccjpgpibaa
