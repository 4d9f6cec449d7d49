/- Trails: a trail and that of the reference are the same. -/
import Derived.Test.YtkedepkhcbhcdaaTrlX
import Derived.Test.YtkedepkhcbhcdaaGrown
namespace Go.Proofs.Ytkedepkhcbhcdaa
open Go Go.RowKit Go.Shelf
set_option linter.unusedVariables false
set_option linter.unusedSimpArgs false
set_option maxHeartbeats 4000000
theorem place_cases {D : Trl} (h : D.Ok) (v : Int) : (placeR D v = -1 ∧ rowD D v = (0, 0, 0, 0) ∧ isSet D v = false) ∨ ∃ (i : Nat) (x : Itm), placeR D v = (i : Int) ∧ D.its[i]? = some x ∧ rowD D v = ((x.lvl : Int), x.rsn, (i : Int), sgn x.lit) ∧ isSet D v = true := by
  by_cases hv : v ≤ 0
  · have h1 : rowD D v = (0, 0, 0, 0) := if_neg (by omega)
    exact .inl ⟨if_pos hv, h1, by unfold isSet; rw [h1]; rfl⟩
  · cases hp : pos D.its v with
    | none =>
      have h1 : rowD D v = (0, 0, 0, 0) := by
        unfold rowD
        split
        · unfold row; rw [hp]
        · rfl
      refine .inl ⟨by unfold placeR; rw [if_neg hv, hp], h1, by unfold isSet; rw [h1]; rfl⟩
    | some i =>
      obtain ⟨x, hx, hl⟩ := pos_some hp
      have hb := h.lits x (List.mem_of_getElem? hx)
      have h1 : rowD D v = ((x.lvl : Int), x.rsn, (i : Int), sgn x.lit) := by
        unfold rowD
        rw [if_pos (by omega)]
        exact row_at h hx v hl
      refine .inr ⟨i, x, by unfold placeR; rw [if_neg hv, hp], hx, h1, ?_⟩
      unfold isSet
      rw [h1]
      show (sgn x.lit != 0) = true
      unfold sgn
      split <;> rfl
/-- A place, and what a row says: both at once. -/
theorem place_split {D : Trl} (h : D.Ok) (v : Int) : ∃ P lv rs sg : Int, placeR D v = P ∧ rowD D v = (lv, rs, max P 0, sg) ∧ isSet D v = decide (0 ≤ P) ∧ ((P = -1 ∧ lv = 0 ∧ rs = 0) ∨ ∃ (i : Nat) (x : Itm), P = (i : Int) ∧ D.its[i]? = some x ∧ lv = (x.lvl : Int) ∧ rs = x.rsn) := by
  rcases place_cases h v with ⟨h1, h2, h3⟩ | ⟨i, x, h1, h2, h3, h4⟩
  · exact ⟨-1, 0, 0, 0, h1, by rw [h2]; rfl, by rw [h3]; rfl, .inl ⟨rfl, rfl, rfl⟩⟩
  · exact ⟨i, x.lvl, x.rsn, sgn x.lit, h1, by rw [h3, show max (i : Int) 0 = i by omega], by rw [h4]; simp, .inr ⟨i, x, rfl, h2, rfl, rfl⟩⟩
/-- While a trail is compared: the box. -/
def SameAt (w : World) (D : Trl) (Ai As : Option Addr) (ci cs : Nat) (wr : World) : Prop := Below w.heap.size w wr ∧ Blk wr w.heap.size 82 #[.int .i64 D.n, .int .i64 ((D.st.length : Int) - 1), .slice Ai D.its.length ci, .slice As D.st.length cs]
/-- The box, and what is wanted. -/
def WantAt (w : World) (D : Trl) (Ai As : Option Addr) (ci cs g : Nat) (lv rs : Int) (wx : World) : Prop := (∃ lt, Blk wx g 93 #[.int .i64 lt, .int .i64 rs, .int .i64 lv]) ∧ SameAt w D Ai As ci cs wx
theorem Ref.row3 {W : World} {B k : Nat} {D : Trl} {Ai : Option Addr} {x : Itm} (h : Reads W B 3 Ai D.its.length (encIs D.its)) (hx : D.its[k]? = some x) : ∃ ad, Ai = some ad ∧ ad.block < B ∧
    W.cell? (ad.add (k * 3)) = some (.int .i64 x.lit) ∧ W.cell? ⟨(ad.add (k * 3)).block, (ad.add (k * 3)).off + 1, none⟩ = some (.int .i64 x.rsn) ∧ W.cell? ⟨(ad.add (k * 3)).block, (ad.add (k * 3)).off + 2, none⟩ = some (.int .i64 x.lvl) := by
  obtain ⟨ad, e, hb, h0, h1, h2⟩ := Ref.row h hx
  have h3 : ∀ j, j ≠ 0 → (⟨(ad.add (k * 3)).block, (ad.add (k * 3)).off + j, none⟩ : Addr) = ad.add (k * 3 + j) := by
    intro j hj
    rw [← add_of_add]
    unfold Addr.add
    rw [if_neg hj]
  exact ⟨ad, e, hb, h0, by rw [h3 1 (by decide)]; exact h1, by rw [h3 2 (by decide)]; exact h2⟩
theorem Trail.ok1 {w : World} {base d : Nat} {fp : List Nat} {D : Trl} (h : Trail w base d fp D) : D.Ok := h.ok
set_option maxRecDepth 100000 in
theorem same_ok {w : World} {v : Value} {D : Trl} {base d : Nat} {fp : List Nat} (hT : Trail w base d fp D) (h : Ref w v D) (hst : D.st.length ≤ 1000) (hits : D.its.length ≤ 1000) (hLists : ∀ W, Below w.heap.size w W → Calls Try.prog 51 #[.pointer (some ⟨d, 0, none⟩), v] W fun e w' => e = .returned (.bool true) ∧ Below W.heap.size W w') : Calls Try.prog 46 #[.pointer (some ⟨d, 0, none⟩), v] w fun e w' => e = .returned (.bool true) ∧ Below w.heap.size w w' := by
  have hok := hT.ok1
  have hst1 := hok.st2
  have hn0 := hok.n0
  obtain ⟨Ai, ci, As, cs, rfl, hI, hS, k1, k2, k3, k4⟩ := h
  have s1 : (D.st.length : Int) ≤ 1000 := by omega
  have s2 : (D.its.length : Int) ≤ 1000 := by omega
  have hbox := Blk.new w 82 #[.int .i64 D.n, .int .i64 ((D.st.length : Int) - 1), .slice Ai D.its.length ci, .slice As D.st.length cs]
  have hB0 : Below w.heap.size w (w.alloc (.cells #[.int .i64 D.n, .int .i64 ((D.st.length : Int) - 1), .slice Ai D.its.length ci, .slice As D.st.length cs] 82)) := (Below.refl _ _).alloc (Nat.le_refl _) _
  replace hok := Lib.hid hok
  replace hLists := Lib.hid hLists
  go_enter Try.func46, Try.ntmps46
  go_wp2_with fail
  generalize w.alloc (.cells #[.int .i64 D.n, .int .i64 ((D.st.length : Int) - 1), .slice Ai D.its.length ci, .slice As D.st.length cs] 82) = W0 at *
  have b0 := hbox.cell 0
  have b1 := hbox.cell 1
  have b2 := hbox.cell 2
  have b3 := hbox.cell 3
  simp only [List.getElem?_toArray, List.getElem?_cons_succ, List.getElem?_cons_zero] at b0 b1 b2 b3
  have hT0 := hT.new hB0
  have hE1 : ∀ nn, Calls Try.prog 20 #[.pointer (some ⟨d, 0, none⟩)] (W0.drewN nn) fun e w2 => e = .returned (.int .i64 ((D.st.length : Int) - 1)) ∧ ∃ m, w2 = W0.drewN m := fun nn => quiet_left (now_trail (hT0.new (below_drewN' _ _)))
  have hE2 : ∀ nn, Calls Try.prog 23 #[.pointer (some ⟨d, 0, none⟩)] (W0.drewN nn) fun e w2 => e = .returned (.int .i64 (D.its.length : Int)) ∧ ∃ m, w2 = W0.drewN m := fun nn => quiet_left (len_trail (hT0.new (below_drewN' _ _)))
  have hE3 : ∀ nn, Calls Try.prog 32 #[.pointer (some ⟨d, 0, none⟩)] (W0.drewN nn) fun e w2 => e = .returned (.int .i64 (D.n : Int)) ∧ ∃ m, w2 = W0.drewN m := fun nn => quiet_left (vars_trail (hT0.new (below_drewN' _ _)))
  replace hE1 := Lib.hid hE1
  replace hE2 := Lib.hid hE2
  replace hE3 := Lib.hid hE3
  go_quiet (first
    | (go_at_call 20; with_reducible exact hE1.out _)
    | (go_at_call 23; with_reducible exact hE2.out _)
    | (go_at_call 32; with_reducible exact hE3.out _))
  clear hE1 hE2 hE3
  go_wp2_with fail
  obtain ⟨mn, hmn⟩ : ∃ mn : Int, min (D.n : Int) 40 = mn := ⟨_, rfl⟩
  have hmn0 : 0 ≤ mn := by omega
  have hmn1 : mn ≤ 40 := by omega
  have hst0 : SameAt w D Ai As ci cs (W0.drewN nq) := ⟨below_drewN hB0 _, hbox.drewN _⟩
  have hR : Ref w (.agg #[.int .i64 D.n, .int .i64 ((D.st.length : Int) - 1), .slice Ai D.its.length ci, .slice As D.st.length cs]) D := ⟨Ai, ci, As, cs, rfl, hI, hS, k1, k2, k3, k4⟩
  generalize W0.drewN nq = W1 at *
  clear b0 b1 b2 b3 hT0 hbox hB0
  clear W0
  go_loopw [5] (fun i wr => ∃ k : Int, -1 ≤ k ∧ k ≤ mn + 2 ∧ i = .int .i64 k ∧ SameAt w D Ai As ci cs wr) (fun i _ => (mn + 2 - intOf i).toNat)
  case atStart => exact ⟨-1, by omega, by omega, rfl, hst0⟩
  case round =>
    obtain ⟨k, hk0, hk1, rfl, hBr, hbx⟩ := hrel
    clear hst0 W1
    have b0 := hbx.cell 0
    have b1 := hbx.cell 1
    have b2 := hbx.cell 2
    have b3 := hbx.cell 3
    simp only [List.getElem?_toArray, List.getElem?_cons_succ, List.getElem?_cons_zero] at b0 b1 b2 b3
    go_upto_region 4 with (fail)
    go_cut [55] from 50 to 55 (fun b55 wx => b55 = .bool (decide (k ≤ mn + 1)) ∧ wx = wr)
    case first =>
      by_cases h40 : (D.n : Int) ≤ 40
      · obtain rfl : (D.n : Int) = mn := by omega
        go_wp2_with fail
        go_meet
        exact ⟨rfl, rfl⟩
      · obtain rfl : 40 = mn := by omega
        go_wp2_with fail
        go_meet
        exact ⟨rfl, rfl⟩
    case rest =>
      obtain ⟨rfl, rfl⟩ := hcut
      by_cases hlt : k ≤ mn + 1
      · obtain ⟨P, lv, rs, sg, hp, hrow, hset, hcase⟩ := place_split hok.out k
        have hd1 : decide (k ≤ mn + 1) = true := by simp [hlt]
        have h50 : Calls Try.prog 50 #[.agg #[.int .i64 D.n, .int .i64 ((D.st.length : Int) - 1), .slice Ai D.its.length ci, .slice As D.st.length cs], .int .i64 k] wc fun e w' => e = .returned (.int .i64 P) ∧ Below wc.heap.size wc w' := by
          rw [← hp]; exact rplace (hR.new hBr) hok.out k
        replace h50 := Lib.hid h50
        replace hrow := Lib.hid hrow
        replace hset := Lib.hid hset
        have hPb : -1 ≤ P ∧ P ≤ 1000 := by
          rcases hcase with ⟨rfl, _⟩ | ⟨i, x, rfl, hx, _⟩
          · omega
          · have := (List.getElem?_eq_some_iff.1 hx).1; omega
        obtain ⟨hP0, hP1⟩ := hPb
        clear hp
        go_upto_if 63 with (go_at_call 50; with_reducible refine h50.out.mono ?_; rintro e W2 ⟨rfl, hB2⟩; clear h50)
        have hn := Blk.new W2 93 #[.int .i64 0, .int .i64 0, .int .i64 0]
        have hB3 : Below w.heap.size w W2 := below_and hBr hB2
        have hbx2 : Blk W2 w.heap.size 82 #[.int .i64 D.n, .int .i64 ((D.st.length : Int) - 1), .slice Ai D.its.length ci, .slice As D.st.length cs] := hbx.below hB2 hbx.lt
        have hBa : Below w.heap.size w (W2.alloc (.cells #[.int .i64 0, .int .i64 0, .int .i64 0] 93)) := hB3.alloc hB3.size _
        have hbxa := hbx2.alloc (.cells #[.int .i64 0, .int .i64 0, .int .i64 0] 93)
        have hgw : w.heap.size < W2.heap.size := hbx2.lt
        clear hbx2 hbx hBr hB3 hB2 b0 b1 b2 b3
        go_cut [7] from 62 to 68 (fun b7 wx => b7 = .pointer (some ⟨W2.heap.size, 0, none⟩) ∧ WantAt w D Ai As ci cs W2.heap.size lv rs wx)
        case first =>
          generalize W2.alloc (.cells #[.int .i64 0, .int .i64 0, .int .i64 0] 93) = W3 at *
          rcases hcase with ⟨rfl, rfl, rfl⟩ | ⟨i, x, rfl, hx, rfl, rfl⟩
          · go_wp2_with fail
            go_meet
            exact ⟨rfl, ⟨_, hn⟩, hBa, hbxa⟩
          · have hti : (i : Int) < (D.its.length : Int) := by have := (List.getElem?_eq_some_iff.1 hx).1; omega
            have hI3 := hI.below hBa
            obtain ⟨ad, hA, hadb, q0, q1, q2⟩ := Ref.row3 hI3 hx
            subst hA
            have hne : ad.block ≠ W2.heap.size := by omega
            have b2 := hbxa.cell 2
            have z0 := hn.cell 0
            have z1 := hn.cell 1
            have z2 := hn.cell 2
            have f0 := hn.frozen 0
            have f1 := hn.frozen 1
            have f2 := hn.frozen 2
            simp only [List.getElem?_toArray, List.getElem?_cons_succ, List.getElem?_cons_zero] at b2 z0 z1 z2
            go_wp2_with fail
            go_meet
            have hs := (((hn.set_ 0 (.int .i64 x.lit)).set_ 1 (.int .i64 x.rsn)).set_ 2 (.int .i64 x.lvl))
            have hg0 : w.heap.size ≠ W2.heap.size := by omega
            exact ⟨rfl, ⟨_, by simpa using hs⟩, ((hBa.setCell (by show _ ≤ W2.heap.size; omega) _).setCell (by show _ ≤ W2.heap.size; omega) _).setCell (by show _ ≤ W2.heap.size; omega) _, ((hbxa.far hg0 _).far hg0 _).far hg0 _⟩
        case rest =>
          obtain ⟨rfl, ⟨lt, hwt⟩, hBr, hbx⟩ := hcut
          have hkb : -9223372036854775808 ≤ k ∧ k ≤ 9223372036854775807 := by omega
          have hC16 : ∀ W, Below w.heap.size w W → Calls Try.prog 16 #[.pointer (some ⟨d, 0, none⟩), .int .i64 k] W fun e w' => e = .returned (.tuple #[.int .i64 lv, .bool (decide (0 ≤ P))]) ∧ Below W.heap.size W w' := fun W hW => level_n (hT.new hW) k hkb (by rw [hrow.out]) hset.out
          have hC14 : ∀ W, Below w.heap.size w W → Calls Try.prog 14 #[.pointer (some ⟨d, 0, none⟩), .int .i64 k] W fun e w' => e = .returned (.tuple #[.int .i64 rs, .bool (decide (0 ≤ P))]) ∧ Below W.heap.size W w' := fun W hW => reason_n (hT.new hW) k hkb (by rw [hrow.out]) hset.out
          have hC24 : ∀ W, Below w.heap.size w W → Calls Try.prog 24 #[.pointer (some ⟨d, 0, none⟩), .int .i64 k] W fun e w' => e = .returned (.tuple #[.int .i64 (max P 0), .bool (decide (0 ≤ P))]) ∧ Below W.heap.size W w' := fun W hW => place_n (hT.new hW) k hkb (by rw [hrow.out]) hset.out
          have hC17 : ∀ W (l : Int), Below w.heap.size w W → Calls Try.prog 17 #[.pointer (some ⟨d, 0, none⟩), .int .i64 l] W fun e w' => e = .returned (.int .i64 (valD D l)) ∧ Below W.heap.size W w' := fun W l hW => value_n (hT.new hW) l rfl
          have hC49 : ∀ W (l : Int), Below w.heap.size w W → Calls Try.prog 49 #[.agg #[.int .i64 D.n, .int .i64 ((D.st.length : Int) - 1), .slice Ai D.its.length ci, .slice As D.st.length cs], .int .i64 l] W fun e w' => e = .returned (.int .i64 (valD D l)) ∧ Below W.heap.size W w' := fun W l hW => rvalue (hR.new hW) hok.out l
          have h16 := hC16 wc hBr
          replace h16 := Lib.hid h16
          replace hC14 := Lib.hid hC14
          replace hC24 := Lib.hid hC24
          replace hC17 := Lib.hid hC17
          replace hC49 := Lib.hid hC49
          clear hC16 hrow hset hcase hBa hbxa hn
          go_upto_region 13 with (first
            | (go_at_call 16; with_reducible refine h16.out.mono ?_; rintro e W4 ⟨rfl, hB4⟩; have h14 := hC14.out W4 (below_and hBr hB4); replace h14 := Lib.hid h14; clear h16 hC14)
            | (go_at_call 14; with_reducible refine h14.out.mono ?_; rintro e W5 ⟨rfl, hB5⟩; have h24 := hC24.out W5 (below_and (below_and hBr hB4) hB5); replace h24 := Lib.hid h24; clear h14 hC24)
            | (go_at_call 24; with_reducible refine h24.out.mono ?_; rintro e W6 ⟨rfl, hB6⟩; clear h24))
          have hBs : Below w.heap.size w W6 := below_and (below_and (below_and hBr hB4) hB5) hB6
          have hwt6 := ((hwt.below hB4 hwt.lt).below hB5 (hwt.below hB4 hwt.lt).lt).below hB6 ((hwt.below hB4 hwt.lt).below hB5 (hwt.below hB4 hwt.lt).lt).lt
          have hbx6 := ((hbx.below hB4 hbx.lt).below hB5 (hbx.below hB4 hbx.lt).lt).below hB6 ((hbx.below hB4 hbx.lt).below hB5 (hbx.below hB4 hbx.lt).lt).lt
          clear hB4 hB5 hB6 hwt hbx hBr W4 W5
          obtain ⟨v1, hv1⟩ : ∃ v1, valD D k = v1 := ⟨_, rfl⟩
          obtain ⟨v2, hv2⟩ : ∃ v2, valD D (-k) = v2 := ⟨_, rfl⟩
          have hX1 : ∀ x : Ext W6, Calls Try.prog 17 #[.pointer (some ⟨d, 0, none⟩), .int .i64 k] x.w fun e w' => e = .returned (.int .i64 v1) ∧ Below x.w.heap.size x.w w' := fun x => hv1 ▸ hC17.out x.w k (below_and hBs x.below)
          have hX2 : ∀ x : Ext W6, Calls Try.prog 17 #[.pointer (some ⟨d, 0, none⟩), .int .i64 (-k)] x.w fun e w' => e = .returned (.int .i64 v2) ∧ Below x.w.heap.size x.w w' := fun x => hv2 ▸ hC17.out x.w (-k) (below_and hBs x.below)
          have hX3 : ∀ x : Ext W6, Calls Try.prog 49 #[.agg #[.int .i64 D.n, .int .i64 ((D.st.length : Int) - 1), .slice Ai D.its.length ci, .slice As D.st.length cs], .int .i64 k] x.w fun e w' => e = .returned (.int .i64 v1) ∧ Below x.w.heap.size x.w w' := fun x => hv1 ▸ hC49.out x.w k (below_and hBs x.below)
          have hX4 : ∀ x : Ext W6, Calls Try.prog 49 #[.agg #[.int .i64 D.n, .int .i64 ((D.st.length : Int) - 1), .slice Ai D.its.length ci, .slice As D.st.length cs], .int .i64 (-k)] x.w fun e w' => e = .returned (.int .i64 v2) ∧ Below x.w.heap.size x.w w' := fun x => hv2 ▸ hC49.out x.w (-k) (below_and hBs x.below)
          clear hC17 hC49 hv1 hv2
          have b0 := fun x : Ext W6 => ((hbx6.below x.below hbx6.lt).cell 0)
          have b1 := fun x : Ext W6 => ((hbx6.below x.below hbx6.lt).cell 1)
          have b2 := fun x : Ext W6 => ((hbx6.below x.below hbx6.lt).cell 2)
          have b3 := fun x : Ext W6 => ((hbx6.below x.below hbx6.lt).cell 3)
          have y1 := fun x : Ext W6 => ((hwt6.below x.below hwt6.lt).cell 1)
          have y2 := fun x : Ext W6 => ((hwt6.below x.below hwt6.lt).cell 2)
          simp only [List.getElem?_toArray, List.getElem?_cons_succ, List.getElem?_cons_zero] at b0 b1 b2 b3 y1 y2
          replace hX1 := Lib.hid hX1
          replace hX2 := Lib.hid hX2
          replace hX3 := Lib.hid hX3
          replace hX4 := Lib.hid hX4
          have hBox := hbx6
          replace hBox := Lib.hid hBox
          clear hbx6 hwt6
          refine wp_region_grown (by kernel_rfl) (by kernel_rfl) (by kernel_rfl) ?_
          repeat (go_big_quiet_step (first
            | (go_at_call 17; with_reducible exact grown_of (hX1.out _))
            | (go_at_call 17; with_reducible exact grown_of (hX2.out _))
            | (go_at_call 49; with_reducible exact grown_of (hX3.out _))
            | (go_at_call 49; with_reducible exact grown_of (hX4.out _))))
          refine wpQuiet_nil ?_
          rintro _ ⟨x, rfl⟩
          go_wp2_with fail
          go_roundw
          case rel => exact ⟨k + 1, by omega, by omega, by go_num, below_and hBs x.below, hBox.out.below x.below hBox.out.lt⟩
          case measure => simp [intOf]; omega
      · have hd1 : decide (k ≤ mn + 1) = false := by simp [hlt]
        have hC26 : ∀ W, Below w.heap.size w W → ∀ (i x e : Int), atD D i = x → atE D i = e → Calls Try.prog 26 #[.pointer (some ⟨d, 0, none⟩), .int .i64 i] W fun r w' => r = .returned (.tuple #[.int .i64 x, .int .i64 e]) ∧ W = w' := fun W hW i x e h1 h2 => at_n (hT.new hW) i h1 h2
        have hC27 : ∀ W, Below w.heap.size w W → ∀ (i x e : Int), startD D i = x → startE D i = e → Calls Try.prog 27 #[.pointer (some ⟨d, 0, none⟩), .int .i64 i] W fun r w' => r = .returned (.tuple #[.int .i64 x, .int .i64 e]) ∧ W = w' := fun W hW i x e h1 h2 => start_n (hT.new hW) i h1 h2
        replace hC26 := Lib.hid hC26
        replace hC27 := Lib.hid hC27
        have hsize := hBr.size
        go_wp2_with fail
        go_loopw [142] (fun i wr => ∃ j : Nat, j ≤ D.its.length ∧ i = .int .i64 j ∧ SameAt w D Ai As ci cs wr) (fun i _ => D.its.length - (intOf i).toNat)
        case atStart => exact ⟨0, by omega, rfl, hBr, hbx⟩
        case round =>
          obtain ⟨j, hj, rfl, hBr2, hbx2⟩ := hrel
          clear hsize hBr hbx b0 b1 b2 b3
          have hsize := hBr2.size
          have hgw := hbx2.lt
          by_cases hjl : j < D.its.length
          · obtain ⟨x, hx⟩ : ∃ x, D.its[j]? = some x := ⟨_, List.getElem?_eq_getElem hjl⟩
            have hI3 := hI.below hBr2
            obtain ⟨ad, hA, hadb, q0, q1, q2⟩ := Ref.row3 hI3 hx
            subst hA
            have t1 : (j : Int) < (D.its.length : Int) := by omega
            have hBn := hBr2.alloc hsize (.cells #[.int .i64 x.lit, .int .i64 x.rsn, .int .i64 x.lvl] 93)
            have h26 := hC26.out _ hBn (j : Int) x.lit 0 (by simp [atD, lits, hx]) (by simp [atE, hjl])
            replace h26 := Lib.hid h26
            have hbn := hbx2.alloc (.cells #[.int .i64 x.lit, .int .i64 x.rsn, .int .i64 x.lvl] 93)
            clear hbx2 hBr2 hI3
            clear hx
            generalize x.lit = xl at *
            generalize x.rsn = xr at *
            generalize (x.lvl : Int) = xv at *
            clear x
            have b2 := hbn.cell 2
            go_wp2_with (go_at_call 26; with_reducible refine h26.out.mono ?_; rintro e w9 ⟨rfl, rfl⟩)
            go_roundw
            case rel => exact ⟨j + 1, by omega, by go_num, hBn, hbn⟩
            case measure => simp [intOf]; omega
          · obtain rfl : j = D.its.length := by omega
            have b3 := hbx2.cell 3
            simp only [List.getElem?_toArray, List.getElem?_cons_succ, List.getElem?_cons_zero] at b3
            go_wp2_with fail
            go_loopw [165] (fun i wr => ∃ j : Nat, j ≤ D.st.length ∧ i = .int .i64 j ∧ SameAt w D Ai As ci cs wr) (fun i _ => D.st.length - (intOf i).toNat)
            case atStart => exact ⟨0, by omega, rfl, hBr2, hbx2⟩
            case round =>
              obtain ⟨j, hj, rfl, hBr3, hbx3⟩ := hrel
              clear hsize hgw hBr2 hbx2 b3
              have hsize := hBr3.size
              have hgw := hbx3.lt
              by_cases hjl : j < D.st.length
              · obtain ⟨ad, y, hA, hadb, hy, q0⟩ := reads_num (hS.below hBr3) hjl
                subst hA
                have t1 : (j : Int) < (D.st.length : Int) := by omega
                have h27 := hC27.out _ hBr3 (j : Int) y 0 (by simp [startD, hy]) (by simp [startE, hjl])
                replace h27 := Lib.hid h27
                clear hy
                go_wp2_with (go_at_call 27; with_reducible refine h27.out.mono ?_; rintro e w9 ⟨rfl, rfl⟩)
                go_roundw
                case rel => exact ⟨j + 1, by omega, by go_num, hBr3, hbx3⟩
                case measure => simp [intOf]; omega
              · obtain rfl : j = D.st.length := by omega
                have b0 := hbx3.cell 0
                have b1 := hbx3.cell 1
                have b2 := hbx3.cell 2
                have b3 := hbx3.cell 3
                simp only [List.getElem?_toArray, List.getElem?_cons_succ, List.getElem?_cons_zero] at b0 b1 b2 b3
                have h26a := hC26.out _ hBr3 (D.its.length : Int) 0 2 (at_bad (Int.le_refl _)).1 (at_bad (Int.le_refl _)).2
                have h26b := hC26.out _ hBr3 (-1) 0 2 rfl rfl
                have h27a := hC27.out _ hBr3 (D.st.length : Int) 0 42 (start_bad (Int.le_refl _)).1 (start_bad (Int.le_refl _)).2
                have h27b := hC27.out _ hBr3 (-1) 0 42 rfl rfl
                have h51 := hLists.out _ hBr3
                replace h26a := Lib.hid h26a
                replace h26b := Lib.hid h26b
                replace h27a := Lib.hid h27a
                replace h27b := Lib.hid h27b
                replace h51 := Lib.hid h51
                go_wp2_with (first
                  | (go_at_call 26; with_reducible refine h26a.out.mono ?_; rintro e w9 ⟨rfl, hw9⟩; cases hw9)
                  | (go_at_call 26; with_reducible refine h26b.out.mono ?_; rintro e w9 ⟨rfl, hw9⟩; cases hw9)
                  | (go_at_call 27; with_reducible refine h27a.out.mono ?_; rintro e w9 ⟨rfl, hw9⟩; cases hw9)
                  | (go_at_call 27; with_reducible refine h27b.out.mono ?_; rintro e w9 ⟨rfl, hw9⟩; cases hw9)
                  | (refine ⟨trivial, ?_⟩; go_at_call 51; with_reducible refine h51.out.mono ?_; rintro e w9 ⟨rfl, hB9⟩)
                  | (go_at_call 51; with_reducible refine h51.out.mono ?_; rintro e w9 ⟨rfl, hB9⟩))
                go_ret
                exact ⟨rfl, below_and hBr3 hB9⟩
end Go.Proofs.Ytkedepkhcbhcdaa
