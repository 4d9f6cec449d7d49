/- Arenas: plays, walked. -/
import Derived.Test.YtlcfgpkokaiogaaRfF
import Derived.Deep.DeepCutAuto
import Derived.Deep.CutBlock
namespace Go.Proofs.Ytlcfgpkokaiogaa
open Go Go.RowKit Go.Shelf
set_option linter.unusedVariables false
set_option linter.unusedSimpArgs false
set_option maxHeartbeats 4000000
theorem RLits.back {W W' : World} {B : Nat} {es : List REn} (h : RLits W' B es) (hb : Below B W W') : RLits W B es := fun e he => ⟨(h e he).1.keep fun p hp => (hb.cell hp).symm, (h e he).2⟩
theorem wrap64_b (x : Int) : -9223372036854775808 ≤ wrap64 x ∧ wrap64 x ≤ 9223372036854775807 := by
  unfold wrap64
  omega
theorem addAl_len (al : List (Nat × List Int)) (last : Nat) (id : Int) (l : List Int) : (addAl al last id l).length ≤ al.length + 1 := by
  unfold addAl
  split
  · simp
  · omega
theorem without_len (al : List (Nat × List Int)) (id : Int) : (without al id).length ≤ al.length := List.length_filter_le _ _
set_option maxRecDepth 100000 in
theorem plays_ok {w : World} {A0 : Option Addr} {n0 c0 B : Nat} {ps : List PA} (hrd : Reads w B 3 A0 n0 (encPs ps)) (hok : ∀ x ∈ ps, PAOk w B x) (hB : B ≤ w.heap.size) (hn0 : n0 ≤ 200) :
    Calls Try.prog 11 #[.slice A0 n0 c0] w fun e w' => e = .returned (.bool true) ∧ Below w.heap.size w w' := by
  replace hok := Lib.hid hok
  go_enter Try.func11, Try.ntmps11
  go_upto_region 5 with (go_at_call 13; refine (run_new (w := w) (Below.refl _ _)).mono ?_; rintro e W1 ⟨d, rfl, hR⟩)
  have hR1 := hR.fresh (t := refT W1.heap.size none 0 0 [] 0) ((Below.refl _ _).alloc (Nat.le_refl _) (.cells #[.slice none 0 0, .int .i64 0] 64)) ⟨Blk.new W1 64 _, World.ownsRow_nil _ _ _ _⟩ (by simp [refT, Value.ownBlock])
  obtain ⟨b, hb⟩ : ∃ b, b = W1.heap.size := ⟨_, rfl⟩
  rw [← hb] at hR1 ⊢
  have hP0 : PS w B b d [] 0 (W1.alloc (.cells #[.slice none 0 0, .int .i64 0] 64)) := ⟨none, 0, 0, [], 0, hR1, rfl, by omega, by intro e he; cases he⟩
  generalize W1.alloc (.cells #[.slice none 0 0, .int .i64 0] 64) = W2 at *
  clear hR hR1 hb
  go_wp2_with fail
  go_loopw [16] (fun i wr => ∃ k : Nat, k ≤ n0 ∧ i = .int .i64 k ∧ PS w B b d [] k wr) (fun i _ => n0 - (intOf i).toNat)
  case atStart => exact ⟨0, by omega, rfl, hP0⟩
  case round =>
    clear hP0
    obtain ⟨k, hk, rfl, A, n, c, es, last, hR, hl, hnk, hL⟩ := hrel
    by_cases hlt : k < n0
    · obtain ⟨ad, x, rfl, hab, hx, q0, q1, q2⟩ := reads_pa (hrd.below (hR.below.mono hB)) hlt
      have hxo := hok.out x (List.mem_of_getElem? hx)
      have t1 : (k : Int) < (n0 : Int) := by omega
      have t2 : 0 ≤ (k : Int) := by omega
      clear hx
      go_upto_region 8 with fail
      have hR1 := hR.fresh (t := blkT wr.heap.size 27 #[.int .u8 x.kd, .int .i64 x.id, .slice x.A x.ls.length x.c]) ((Below.refl _ _).alloc (Nat.le_refl _) (.cells #[.int .u8 x.kd, .int .i64 x.id, .slice x.A x.ls.length x.c] 27)) (Blk.new wr 27 _) (by simp [blkT])
      obtain ⟨b6, hb6⟩ : ∃ b6, b6 = wr.heap.size := ⟨_, rfl⟩
      rw [← hb6] at hR1 ⊢
      generalize wr.alloc (.cells #[.int .u8 x.kd, .int .i64 x.id, .slice x.A x.ls.length x.c] 27) = W3 at *
      clear hR hb6 q0 q1 q2
      obtain ⟨m, hm⟩ : ∃ m, m = x.ls.length := ⟨_, rfl⟩
      have hxr := hxo.rd
      have hxc := hxo.cap
      have hxk := hxo.kd
      have hxi := hxo.id
      have hxf := hxo.few
      rw [← hm] at hR1 hxr hxc hxf ⊢
      have hm' := Lib.hid hm
      clear hm hxo
      have k6 : Blk W3 b6 27 #[.int .u8 x.kd, .int .i64 x.id, .slice x.A m x.c] := hR1.thing (t := blkT b6 27 #[.int .u8 x.kd, .int .i64 x.id, .slice x.A m x.c]) (by simp)
      have e62 := k6.cell 2
      simp only [List.getElem?_toArray, List.getElem?_cons_zero, List.getElem?_cons_succ] at e62
      have hcl := clause_ok x.A m x.c B x.ls (hxr.below (hR1.below.mono hB)) (Nat.le_trans hB hR1.below.size) (by omega)
      replace hcl := Lib.hid hcl
      go_upto_region 11 with (go_at_call 29; refine hcl.out.mono ?_; rintro e W4 ⟨A9, c9, rfl, hown, hB4⟩)
      have hR2 := hR1.fresh (t := rowT W3.heap.size 30 1 (.slice A9 m c9) m (lits x.ls)) hB4 hown (fun k hk => hown.lt k (by simpa [rowT] using hk))
      clear hR1 hcl e62 k6 hB4 hown
      have hR3 : Run w [] [refT b A n c es last, rowT W3.heap.size 30 1 (.slice A9 m c9) m (lits x.ls), blkT b6 27 #[.int .u8 x.kd, .int .i64 x.id, .slice x.A m x.c]] d (alR es) last W4 := hR2.perm (List.perm_middle (l₁ := [rowT W3.heap.size 30 1 (.slice A9 m c9) m (lits x.ls), blkT b6 27 #[.int .u8 x.kd, .int .i64 x.id, .slice x.A m x.c]]) (a := refT b A n c es last) (l₂ := []))
      clear hR2
      have k6 : Blk W4 b6 27 #[.int .u8 x.kd, .int .i64 x.id, .slice x.A m x.c] := hR3.thing (t := blkT b6 27 #[.int .u8 x.kd, .int .i64 x.id, .slice x.A m x.c]) (by simp)
      have e60 := k6.cell 0
      have e61 := k6.cell 1
      simp only [List.getElem?_toArray, List.getElem?_cons_zero, List.getElem?_cons_succ] at e60 e61
      obtain ⟨kd0, kd1⟩ := hxk
      go_upto_if 27 with (fail)
      go_cut [7, 8] (fun b7 b8 wx => ∃ E : Int, b7 = .int .i64 E ∧ b8 = .int .i64 E ∧ PS w B b d [rowT W3.heap.size 30 1 (.slice A9 m c9) m (lits x.ls), blkT b6 27 #[.int .u8 x.kd, .int .i64 x.id, .slice x.A m x.c]] (k + 1) wx)
      case first =>
        by_cases hk4 : x.kd % 4 < 2
        · skip
          have hsz3 := hR3.below.size
          go_wp2_with (first
            | (go_at_call 14; refine (run_add hR3 (Reads.of_own (hR3.thing (t := rowT W3.heap.size 30 1 (.slice A9 m c9) m (lits x.ls)) (by simp))) (Nat.le_refl _) (by omega) x.id rfl rfl rfl).mono ?_; rintro e W5 ⟨rfl, hR5⟩; have hbl5 := (hR5.thing (t := refT b A n c es last) (by simp)).1; have hRr5 : RefR W5 B A n c es := ⟨(hR5.thing (t := refT b A n c es last) (by simp)).2, hl, hL.below (hR5.below.mono hB), by omega⟩; have c40 := hbl5.cell 0; have c41 := hbl5.cell 1; have k65 : Blk W5 b6 27 #[.int .u8 x.kd, .int .i64 x.id, .slice x.A m x.c] := hR5.thing (t := blkT b6 27 #[.int .u8 x.kd, .int .i64 x.id, .slice x.A m x.c]) (by simp); have g1 := k65.cell 1; have g2 := k65.cell 2; simp only [List.getElem?_toArray, List.getElem?_cons_zero, List.getElem?_cons_succ] at c40 c41 g1 g2)
            | (go_at_call 30; refine (radd_ok hRr5 (Nat.le_trans hB hR5.below.size) (hxr.below (hR5.below.mono hB)) (by omega) (by rw [← hm'.out]; exact hxc) hR3.ok.us (by omega)).mono ?_; rintro e W6 ⟨A1, n1, c1, es1, rfl, hRf, hal, hB6, hbk⟩; have hbl6 := hbl5.below hB6 hbl5.lt; have d40 := hbl6.cell 0; have d41 := hbl6.cell 1; have z40 := hbl6.frozen 0; have z41 := hbl6.frozen 1; simp only [List.getElem?_toArray, List.getElem?_cons_zero, List.getElem?_cons_succ] at d40 d41))
          go_meet
          have hfin := Run.refSet hR5 hB6 hRf hbk (last' := addLast (alR es) last x.id x.ls)
          rw [← hal] at hfin
          have hln : n1 ≤ k + 1 := by
            have h1 := hRf.len
            have h2 := alR_len es1
            rw [hal] at h2
            have h3 := addAl_len (alR es) last x.id x.ls
            have h4 := alR_len es
            omega
          exact ⟨_, rfl, rfl, A1, n1, c1, es1, _, hfin, hRf.len, hln, hRf.ls.back ((hR5.below.trans (hB6.mono hR5.below.size)).mono hB)⟩
        · skip
          have hsz3 := hR3.below.size
          go_wp2_with (first
            | (go_at_call 15; refine (run_del hR3 x.id hxi rfl rfl).mono ?_; rintro e W5 ⟨rfl, hR5⟩; have hbl5 := (hR5.thing (t := refT b A n c es last) (by simp)).1; have hRr5 : RefR W5 B A n c es := ⟨(hR5.thing (t := refT b A n c es last) (by simp)).2, hl, hL.below (hR5.below.mono hB), by omega⟩; have c40 := hbl5.cell 0; have c41 := hbl5.cell 1; have k65 : Blk W5 b6 27 #[.int .u8 x.kd, .int .i64 x.id, .slice x.A m x.c] := hR5.thing (t := blkT b6 27 #[.int .u8 x.kd, .int .i64 x.id, .slice x.A m x.c]) (by simp); have g1 := k65.cell 1; have g2 := k65.cell 2; simp only [List.getElem?_toArray, List.getElem?_cons_zero, List.getElem?_cons_succ] at c40 c41 g1 g2)
            | (go_at_call 31; refine (rdel_ok hRr5 (Nat.le_trans hB hR5.below.size) hR3.ok.so).mono ?_; rintro e W6 ⟨A1, n1, c1, es1, rfl, hRf, hal, hB6, hbk⟩; have hbl6 := hbl5.below hB6 hbl5.lt; have d40 := hbl6.cell 0; have d41 := hbl6.cell 1; have z40 := hbl6.frozen 0; have z41 := hbl6.frozen 1; simp only [List.getElem?_toArray, List.getElem?_cons_zero, List.getElem?_cons_succ] at d40 d41))
          go_meet
          have hfin := Run.refSet hR5 hB6 hRf hbk (last' := last)
          rw [← hal] at hfin
          have hln : n1 ≤ k + 1 := by
            have h1 := hRf.len
            have h2 := alR_len es1
            rw [hal] at h2
            have h3 := without_len (alR es) x.id
            have h4 := alR_len es
            omega
          exact ⟨_, rfl, rfl, A1, n1, c1, es1, _, hfin, hRf.len, hln, hRf.ls.back ((hR5.below.trans (hB6.mono hR5.below.size)).mono hB)⟩
      case rest =>
        obtain ⟨E, rfl, rfl, A1, n1, c1, es1, last1, hR, hl1, hnk1, hL1⟩ := hcut
        clear hR3 k6 e60 e61 hl hnk hL
        have k6 : Blk wc b6 27 #[.int .u8 x.kd, .int .i64 x.id, .slice x.A m x.c] := hR.thing (t := blkT b6 27 #[.int .u8 x.kd, .int .i64 x.id, .slice x.A m x.c]) (by simp)
        have hl6 := k6.lt
        have e62 := k6.cell 2
        simp only [List.getElem?_toArray, List.getElem?_cons_zero, List.getElem?_cons_succ] at e62
        have hor : Reads wc wc.heap.size 1 A9 m (lits x.ls) := Reads.of_own (hR.thing (t := rowT W3.heap.size 30 1 (.slice A9 m c9) m (lits x.ls)) (by simp))
        have hxrc : Reads wc wc.heap.size 1 x.A m (lits x.ls) := (hxr.below (hR.below.mono hB)).more (Nat.le_trans hB hR.below.size)
        go_upto_region 16 with fail
        go_cut [63] (fun b63 wx => b63 = .bool false ∧ Below wc.heap.size wc wx)
        case first =>
          have hS : wc.cell? ⟨b6, 2, none⟩ = some (.slice x.A m x.c) := e62
          refine wp_region_held (S := fun W => W.cell? ⟨b6, 2, none⟩ = some (.slice x.A m x.c)) (by kernel_rfl) ?_
          change wpAnyH _ _ _ _ _ _ _ _ (World.drew _)
          refine takeH 0 (v := .int .i64 E) rfl (by kernel_rfl) (by kernel_rfl) (by kernel_rfl) (fun _ _ _ h => h) (by rfl) hS ?_ ?_
          · (intro wz hSw; go_simp)
          try simp only [Act.put, List.setIfInBounds_toArray, List.set_cons_zero, List.set_cons_succ]
          refine takeH 1 (v := .int .i64 E) rfl (by kernel_rfl) (by kernel_rfl) (by kernel_rfl) (fun _ _ _ h => h) (by rfl) hS ?_ ?_
          · (intro wz hSw; go_simp)
          try simp only [Act.put, List.setIfInBounds_toArray, List.set_cons_zero, List.set_cons_succ]
          refine takeH 2 (v := .bool false) rfl (by kernel_rfl) (by kernel_rfl) (by kernel_rfl) (fun _ _ _ h => h) (by rfl) hS ?_ ?_
          · (intro wz hSw; go_simp)
          try simp only [Act.put, List.setIfInBounds_toArray, List.set_cons_zero, List.set_cons_succ]
          refine takeH 3 (v := .bool false) rfl (by kernel_rfl) (by kernel_rfl) (by kernel_rfl) (fun _ _ _ h => h) (by rfl) hS ?_ ?_
          · (intro wz hSw; go_simp)
          try simp only [Act.put, List.setIfInBounds_toArray, List.set_cons_zero, List.set_cons_succ]
          refine takeH 4 (v := .slice A9 m c9) rfl (by kernel_rfl) (by kernel_rfl) (by kernel_rfl) (fun _ _ _ h => h) (by rfl) hS ?_ ?_
          · (intro wz hSw; go_simp)
          try simp only [Act.put, List.setIfInBounds_toArray, List.set_cons_zero, List.set_cons_succ]
          refine takeH 6 (v := ?_) rfl (by kernel_rfl) (by kernel_rfl) (by kernel_rfl) (fun _ _ _ h => h) (by rfl) hS ?_ ?_
          rotate_left
          · (intro wz hSw; go_simp; try with_reducible rfl)
          try simp only [Act.put, List.setIfInBounds_toArray, List.set_cons_zero, List.set_cons_succ]
          refine takeH 7 (v := .slice x.A m x.c) rfl (by kernel_rfl) (by kernel_rfl) (by kernel_rfl) (fun _ _ _ h => h) (by rfl) hS ?_ ?_
          · (intro wz hSw; go_simp)
          try simp only [Act.put, List.setIfInBounds_toArray, List.set_cons_zero, List.set_cons_succ]
          refine callH 5 rfl (by kernel_rfl) (fun K hK => ?_)
          go_simp
          go_wp2_with (go_at_call 32; refine (ints_ok A9 m c9 wc.heap.size x.ls (w := wc.drew) hor.drew (Nat.le_refl _) (by omega)).mono ?_; rintro e W6 ⟨A8, c8, rfl, hown8, hB8⟩)
          have hB86 : Below wc.heap.size wc W6 := (below_drewN_ (Below.refl _ wc) 1).trans hB8
          have hS6 : W6.cell? ⟨b6, 2, none⟩ = some (.slice x.A m x.c) := (hB86.cell (p := ⟨b6, 2, none⟩) hl6).trans e62
          refine hK.out _ _ hS6 (fun _ => ?_)
          clear hK K
          refine callH 8 rfl (by kernel_rfl) (fun K hK => ?_)
          go_simp
          go_wp2_with (go_at_call 28; refine (equal_ints A8 x.A m c8 x.c x.ls _ _ (Reads.of_own hown8) ((hxrc.below hB86).more hB86.size) (by omega)).mono ?_; rintro e W7 ⟨rfl, hB87⟩)
          have hB77 := hB86.trans (hB87.mono hB86.size)
          have hS7 : W7.cell? ⟨b6, 2, none⟩ = some (.slice x.A m x.c) := (hB77.cell (p := ⟨b6, 2, none⟩) hl6).trans e62
          refine hK.out _ _ hS7 (fun _ => ?_)
          clear hK K hS hS6
          have hS := hS7
          refine takeH 9 (v := .bool false) rfl (by kernel_rfl) (by kernel_rfl) (by kernel_rfl) (fun _ _ _ h => h) (by rfl) hS ?_ ?_
          · (intro wz hSw; go_simp)
          try simp only [Act.put, List.setIfInBounds_toArray, List.set_cons_zero, List.set_cons_succ]
          refine takeH 10 (v := .bool false) rfl (by kernel_rfl) (by kernel_rfl) (by kernel_rfl) (fun _ _ _ h => h) (by rfl) hS ?_ ?_
          · (intro wz hSw; go_simp)
          try simp only [Act.put, List.setIfInBounds_toArray, List.set_cons_zero, List.set_cons_succ]
          refine wpAnyH_done (by kernel_rfl) ?_ _
          go_wp2
          go_meet
          exact ⟨rfl, hB77⟩
        case rest =>
          obtain ⟨rfl, hB1⟩ := hcut
          have hR2 := hR.new hB1
          have hR3 := hR2.swap
          clear hR hR2 hxrc hor k6 e62 hB1
          go_wp2_with fail
          go_loopw [66] (fun i wr => ∃ (j : Nat) (xs : List Value), j ≤ m ∧ i = .int .i64 j ∧ Run w [] [rowT W3.heap.size 30 1 (.slice A9 m c9) m xs, refT b A1 n1 c1 es1 last1, blkT b6 27 #[.int .u8 x.kd, .int .i64 x.id, .slice x.A m x.c]] d (alR es1) last1 wr) (fun i _ => m - (intOf i).toNat)
          case atStart => exact ⟨0, _, by omega, rfl, hR3⟩
          case round =>
            clear hR3
            obtain ⟨j, xs, hj, rfl, hR⟩ := hrel
            by_cases hjm : j < m
            · have hrow : wr.ownsRow W3.heap.size 30 1 (.slice A9 m c9) m xs := hR.thing (t := rowT W3.heap.size 30 1 (.slice A9 m c9) m xs) (by simp)
              obtain ⟨g, cap, hv, hgV, hgl⟩ := hrow.form (by omega)
              have hyA : A9 = some ⟨g, 0, none⟩ := by injection hv
              subst hyA
              have hxs : xs.length = m := by have := hrow.1; omega
              have b0 := hrow.cellAt (g := g) j (by omega)
              rw [List.getElem?_eq_getElem (by omega)] at b0
              have z0 := hrow.frozenAt (g := g) j
              have hst := (hrow.stored (g := g) j (.int .i64 0)).1
              have hR2 := hR.change (t' := rowT W3.heap.size 30 1 (.slice (some ⟨g, 0, none⟩) m c9) m (xs.set j (.int .i64 0))) ((Only.refl [g] wr).setCell (p := ⟨g, j, none⟩) (.inl (by simp)) (.int .i64 0)) hst (by simp [rowT, Value.ownBlock])
              have u1 : (j : Int) < (m : Int) := by omega
              have u2 : 0 ≤ (j : Int) := by omega
              clear hrow hv hst hR
              go_wp2_with fail
              go_roundw
              case rel => exact ⟨j + 1, _, by omega, by go_num, hR2⟩
              case measure => simp [intOf]; omega
            · obtain rfl : m = j := by omega
              have hR4 := hR.tail
              clear hR
              have hbl := (hR4.thing (t := refT b A1 n1 c1 es1 last1) (by simp)).1
              have c40 := hbl.cell 0
              have c41 := hbl.cell 1
              have g1 := (show Blk wr b6 27 #[.int .u8 x.kd, .int .i64 x.id, .slice x.A m x.c] from hR4.thing (t := blkT b6 27 #[.int .u8 x.kd, .int .i64 x.id, .slice x.A m x.c]) (by simp)).cell 1
              simp only [List.getElem?_toArray, List.getElem?_cons_zero, List.getElem?_cons_succ] at c40 c41 g1
              clear hbl
              have hwb := wrap64_b (x.id + 1)
              have tt0 := Lib.hid trivial
              have hLh := Lib.hid hL1
              by_cases hk5 : k % 5 = 4
              all_goals
                have hkb : ((k : Int) % 5 == 4) = decide (k % 5 = 4) := by
                  by_cases h : k % 5 = 4
                  · rw [decide_eq_true h]; simp; omega
                  · rw [decide_eq_false h]; simp; omega
                first | rw [decide_eq_true hk5] at hkb | rw [decide_eq_false hk5] at hkb
                clear hk5
                go_wp2_with (first
                  | (go_at_call 33; clear tt0; refine (hR4.asks hl1 (by omega) hLh.out hB x.id hxi).mono ?_; rintro e W6 ⟨rfl, hR5⟩; have hbl5 := (hR5.thing (t := refT b A1 n1 c1 es1 last1) (by simp)).1; have d40 := hbl5.cell 0; have d41 := hbl5.cell 1; have g15 := (show Blk W6 b6 27 #[.int .u8 x.kd, .int .i64 x.id, .slice x.A m x.c] from hR5.thing (t := blkT b6 27 #[.int .u8 x.kd, .int .i64 x.id, .slice x.A m x.c]) (by simp)).cell 1; simp only [List.getElem?_toArray, List.getElem?_cons_zero, List.getElem?_cons_succ] at d40 d41 g15)
                  | (go_at_call 33; refine (hR5.asks hl1 (by omega) hLh.out hB _ (by first | omega | exact hwb)).mono ?_; rintro e W7 ⟨rfl, hR6⟩; have hbl6 := (hR6.thing (t := refT b A1 n1 c1 es1 last1) (by simp)).1; have f40 := hbl6.cell 0; have f41 := hbl6.cell 1; simp only [List.getElem?_toArray, List.getElem?_cons_zero, List.getElem?_cons_succ] at f40 f41)
                  | (go_at_call 34; refine (hR6.same hl1 (by omega) hLh.out hB).mono ?_; rintro e W8 ⟨rfl, hR7⟩; clear hR6; have hR6 := hR7))
                all_goals
                  go_roundw
                  case rel => exact ⟨k + 1, by omega, by go_num, A1, n1, c1, es1, last1, hR6.swap.tail, hl1, hnk1, hL1⟩
                  case measure => simp [intOf]; omega
    · obtain rfl : n0 = k := by omega
      have hbl := (hR.thing (t := refT b A n c es last) (by simp)).1
      have c40 := hbl.cell 0
      have c41 := hbl.cell 1
      simp only [List.getElem?_toArray, List.getElem?_cons_zero, List.getElem?_cons_succ] at c40 c41
      clear hbl
      have tt0 := Lib.hid trivial
      have hLh := Lib.hid hL
      go_wp2_with (first
        | (go_at_call 34; clear tt0; refine (hR.same hl (by omega) hLh.out hB).mono ?_; rintro e W6 ⟨rfl, hR5⟩; have hbl5 := (hR5.thing (t := refT b A n c es last) (by simp)).1; have d40 := hbl5.cell 0; have d41 := hbl5.cell 1; simp only [List.getElem?_toArray, List.getElem?_cons_zero, List.getElem?_cons_succ] at d40 d41)
        | (go_at_call 34; refine (hR5.same hl (by omega) hLh.out hB).mono ?_; rintro e W7 ⟨rfl, hR6⟩))
      go_ret
      exact ⟨rfl, hR6.below⟩
end Go.Proofs.Ytlcfgpkokaiogaa
