/- Disks: law 9 (barriers), walked. -/
import Derived.Test.YthhchccjpgpibaaDiskU
namespace Go.Proofs.Ythhchccjpgpibaa
open Go Go.RowKit Go.Shelf
set_option linter.unusedVariables false
set_option linter.unusedSimpArgs false
set_option maxHeartbeats 4000000
theorem enc5 (W : World) : (W.alloc (.cells #[.int .u8 5, .int .i64 0, .int .u32 0] 31)).ownsRow W.heap.size 31 3 (.slice (some ⟨W.heap.size, 0, none⟩) 1 1) 1 (encAs [(5, 0, 0)]) := lit_own W 31 (encAs [(5, 0, 0)]) 3 1 (by omega) rfl
set_option maxRecDepth 100000 in
theorem law_barriers (f0 f1 f2 : Int) (a0 : 0 ≤ f0 ∧ f0 ≤ 255) (a1 : 0 ≤ f1 ∧ f1 ≤ 255) (a2 : 0 ≤ f2 ∧ f2 ≤ 255) (A : Option Addr) (n c : Nat) (acts : List ActV) (w : World) (hrd : Reads w w.heap.size 3 A n (encAs acts)) (hn : n ≤ c) (hc : c ≤ 9223372036854775807) (hok : ∀ a ∈ acts, ActV.Ok a) :
    Calls Try.prog 9 #[.agg #[.int .u8 f0, .int .u8 f1, .int .u8 f2], .slice A n c] w fun e w' => e = .returned (.bool true) ∧ Below w.heap.size w w' := by
  have hB0 := (Below.refl _ w).alloc (Nat.le_refl _) (.cells #[.int .u8 f0, .int .u8 f1, .int .u8 f2] 22)
  have hbox := Blk.new w 22 #[.int .u8 f0, .int .u8 f1, .int .u8 f2]
  have hbl : w.heap.size < (w.alloc (.cells #[.int .u8 f0, .int .u8 f1, .int .u8 f2] 22)).heap.size := by simp
  replace hok := Lib.hid hok
  go_enter Try.func9, Try.ntmps9
  go_upto_region 3 with (go_at_call 10; refine (awake_ok _).mono ?_; rintro e w1 ⟨rfl, hB1⟩; replace hbox := hbox.below hB1 hbl; replace hB0 := below_and hB0 hB1; clear hB1)
  obtain ⟨m, hm⟩ : ∃ m, m = min n 60 := ⟨_, rfl⟩
  replace hm := Lib.hid hm
  go_cut [1] (fun u wx => u = .slice A m c ∧ wx = w1)
  case first =>
    have hf1 := hm.out
    by_cases h1 : n ≤ 60
    · obtain rfl : m = n := by omega
      clear hf1
      have i1 : (m : Int) ≤ 60 := by omega
      go_wp2
      go_meet
      exact ⟨rfl, rfl⟩
    · obtain rfl : m = 60 := by omega
      clear hf1
      have i1 : ¬ (n : Int) ≤ 60 := by omega
      have i3 : 60 ≤ c := by omega
      go_wp2
      go_meet
      exact ⟨rfl, rfl⟩
  case rest =>
    obtain ⟨rfl, rfl⟩ := hcut
    have hrd0 := hrd.take m (by have := hm.out; omega)
    rw [encAs_take] at hrd0
    replace hok : Hid (∀ a ∈ acts.take m, ActV.Ok a) := Lib.hid fun a ha => hok.out a (List.mem_of_mem_take ha)
    have hm' : m ≤ 60 := by have := hm.out; omega
    have hn' : m ≤ c := by have := hm.out; omega
    generalize acts.take m = l1 at hrd0 hok
    clear hm hrd hn
    have hbs := hB0.size
    have hbl0 := hbox.lt
    have hlen1 : l1.length ≤ 60 := by have := hrd0.1; rw [encAs_len] at this; omega
    have hok2 : Hid (∀ a ∈ l1.filter noBar, ActV.Ok a) := Lib.hid fun a ha => hok.out a (List.mem_filter.1 ha).1
    have hlen2 : (l1.filter noBar).length ≤ 60 := by have := List.length_filter_le noBar l1; omega
    generalize hpl : l1.filter noBar = l2 at hok2 hlen2
    replace hpl := Lib.hid hpl
    go_wp2_with fail
    refine (clone21 A m c w.heap.size (encAs l1) _ (hrd0.below hB0) (encAs_one _) (by omega)).mono ?_
    rintro e w2 ⟨v, rfl, hv, hB2⟩
    obtain ⟨V, cv, rfl⟩ := own_form hv
    obtain ⟨hcv1, hcv2⟩ := own_cap hv
    replace hbox := hbox.below hB2 (by omega)
    replace hB0 := below_and hB0 hB2
    have hwc : wc.heap.size ≤ w2.heap.size := hB2.size
    clear hB2
    go_wp2_with fail
    refine (delete30 V m cv wc.heap.size l1 _ hv hwc hok.out (by omega)).mono ?_
    rintro e w3 ⟨rfl, hrp, hB3⟩
    replace hbox := hbox.below hB3 (by omega)
    replace hB0 := hB0.trans (hB3.mono hbs)
    rw [hpl.out] at hrp ⊢
    have hp1 : l2.length ≤ m := by rw [← hpl.out]; have := List.length_filter_le noBar l1; have := hrd0.1; rw [encAs_len] at this; omega
    clear hv hB3
    have q0 := hbox.cell 0
    have q1 := hbox.cell 1
    have q2 := hbox.cell 2
    simp only [List.getElem?_toArray, List.getElem?_cons_zero, List.getElem?_cons_succ] at q0 q1 q2
    have hbs3 := hB0.size
    generalize hpn : l2.length = p at *
    replace hpn := Lib.hid hpn
    go_wp2_with fail
    refine (run_end f0 f1 f2 a0 a1 a2 A m c w.heap.size l1 _ (hrd0.below hB0) hbs3 hn' hc hok.out hlen1).mono ?_
    rintro e w4 ⟨d, L, cap, fp, rfl, hE⟩
    have hs1 := hE.below.size
    have hDd := hE.disk.base_le hbs3
    have hrl := own_base hE.row.1 hbs3
    have hfd := hE.few
    replace hbox := hbox.below hE.below hbox.lt
    replace hB0 := below_and hB0 hE.below
    replace hrp := hrp.below hE.below
    clear hE
    have q0 := hbox.cell 0
    have q1 := hbox.cell 1
    have q2 := hbox.cell 2
    simp only [List.getElem?_toArray, List.getElem?_cons_zero, List.getElem?_cons_succ] at q0 q1 q2
    go_wp2_with fail
    refine (run_end f0 f1 f2 a0 a1 a2 V p cv w3.heap.size l2 _ hrp hs1 (by omega) hcv2 hok2.out (by have := hpn.out; omega)).mono ?_
    rintro e w5 ⟨x, L2, cap2, fpx, rfl, hE⟩
    have hs2 := hE.below.size
    have hDx := hE.disk.base_le hB0.size
    have hrs := own_base hE.row.1 hB0.size
    have hfx := hE.few
    replace hbox := hbox.below hE.below hbox.lt
    replace hDd := hDd.new hE.below
    replace hrl := row_new hrl hE.below
    replace hB0 := below_and hB0 hE.below
    replace hrp := hrp.below (hE.below.mono hs1)
    clear hE
    have q0 := hbox.cell 0
    have q1 := hbox.cell 1
    have q2 := hbox.cell 2
    simp only [List.getElem?_toArray, List.getElem?_cons_zero, List.getElem?_cons_succ] at q0 q1 q2
    go_upto_region 7 with (fail)
    obtain ⟨r, hr⟩ : ∃ r, r = min p 59 := ⟨_, rfl⟩
    have hr' : r ≤ p := by omega
    have hr2 : r ≤ 59 := by omega
    replace hr := Lib.hid hr
    have hrr := hrp.take r hr'
    rw [encAs_take] at hrr
    have hok3 : Hid (∀ a ∈ (5, 0, 0) :: l2.take r, ActV.Ok a) := Lib.hid fun a ha => by
      rcases List.mem_cons.1 ha with rfl | ha
      · exact ⟨by decide, by decide, by decide, by decide, by decide, by decide⟩
      · exact hok2.out a (List.mem_of_mem_take ha)
    have hlen3 : ((5, 0, 0) :: l2.take r : List ActV).length ≤ 60 := by simp; omega
    go_cut [10, 11] (fun u v wx => OneAt w w5 (runD (mkD 4 3 (first3 f0 f1 f2)) ((5, 0, 0) :: l2.take r)) (lastW (first3 f0 f1 f2) ((5, 0, 0) :: l2.take r)) u v wx)
    case first =>
      obtain ⟨i0, hi, hz0, hz1, hz2⟩ := info_parts info31
      have hbl5 := hbox.lt
      have hlit := enc5 w5
      have hBa := (Below.refl w5.heap.size w5).alloc (Nat.le_refl _) (.cells #[.int .u8 5, .int .i64 0, .int .u32 0] 31)
      have hrra := hrr.below (hBa.mono (show w3.heap.size ≤ w5.heap.size by omega))
      have hba := hbox.below hBa hbl5
      have hz5 : w5.heap.size ≤ (w5.alloc (.cells #[.int .u8 5, .int .i64 0, .int .u32 0] 31)).heap.size := by simp
      have hw5 : w.heap.size ≤ w5.heap.size := by omega
      have hBad : Below w5.heap.size w5 (w5.alloc (.cells #[.int .u8 5, .int .i64 0, .int .u32 0] 31)).drew := ⟨hBa.os, hBa.tape, hBa.output, hBa.size, hBa.block⟩
      have hlitd : ((w5.alloc (.cells #[.int .u8 5, .int .i64 0, .int .u32 0] 31)).drew).ownsRow w5.heap.size 31 3 (.slice (some ⟨w5.heap.size, 0, none⟩) 1 1) 1 (encAs [(5, 0, 0)]) := hlit
      have hrrad := hrra.drew
      have hrf := hr.out
      by_cases h1 : p ≤ 59
      · obtain rfl : r = p := by omega
        clear hrf
        have i1 : ¬ 59 < (r : Int) := by omega
        have i2 : (r : Int) ≤ (cv : Int) := by omega
        have i3 : 0 ≤ (r : Int) := by omega
        go_region_law (first
          | (refine step_append_any _ (by rfl) _ _ 23 (by rfl) w5.heap.size 31 i0 _ 3 24 Try.underlying23 hi hz0 hz1 hz2 rfl (by omega) (.slice (some ⟨w5.heap.size, 0, none⟩) 1 1) 1 (encAs [(5, 0, 0)]) (by rfl) hlitd w3.heap.size V r cv (encAs (l2.take r)) (by rfl) hrrad (encAs_one _) (by simp only [maxLen]; omega) (by omega) hz5 ?_; intro v6 w6 hown hgr hat; obtain ⟨A6, c6, rfl⟩ := own_form hown; obtain ⟨hn6, hc6⟩ := own_cap hown; have hB6 : Below w5.heap.size w5 w6 := own_below hBad hz5 hlitd hgr; have hb6 := hbox.below hB6 hbl5; replace q0 := hb6.cell 0; replace q1 := hb6.cell 1; replace q2 := hb6.cell 2; simp only [List.getElem?_toArray, List.getElem?_cons_zero, List.getElem?_cons_succ] at q0 q1 q2; have hrd6 := Reads.of_own hown; rw [← encAs_app] at hrd6)
          | (go_simp; go_at_call 11; refine (run_end f0 f1 f2 a0 a1 a2 A6 (1 + r) c6 w6.heap.size ((5, 0, 0) :: l2.take r) _ (by exact hrd6) (Nat.le_refl _) hn6 hc6 hok3.out hlen3).mono ?_; rintro e w7 ⟨d7, L7, cap7, fp7, rfl, hE7⟩; have hfin : OneAt w w5 (runD (mkD 4 3 (first3 f0 f1 f2)) ((5, 0, 0) :: l2.take r)) (lastW (first3 f0 f1 f2) ((5, 0, 0) :: l2.take r)) (.pointer (some ⟨d7, 0, none⟩)) (.slice L7 3 cap7) w7 := ⟨d7, fp7, L7, cap7, rfl, rfl, hE7.disk.base_le (Nat.le_trans hw5 hB6.size), own_base hE7.row.1 (Nat.le_trans hw5 hB6.size), hB6.trans (hE7.below.mono hB6.size)⟩; clear hE7))
        all_goals
          go_wp2_with fail
          go_meet
          exact hfin
      · obtain rfl : r = 59 := by omega
        clear hrf
        have i1 : 59 < (p : Int) := by omega
        have i4 : 59 ≤ (cv : Int) := by omega
        have i2 : 59 ≤ p := by omega
        have i3 : 59 ≤ cv := by omega
        go_region_law (first
          | (refine step_append_any _ (by rfl) _ _ 23 (by rfl) w5.heap.size 31 i0 _ 3 24 Try.underlying23 hi hz0 hz1 hz2 rfl (by omega) (.slice (some ⟨w5.heap.size, 0, none⟩) 1 1) 1 (encAs [(5, 0, 0)]) (by rfl) hlitd w3.heap.size V 59 cv (encAs (l2.take 59)) (by rfl) hrrad (encAs_one _) (by simp only [maxLen]; omega) (by omega) hz5 ?_; intro v6 w6 hown hgr hat; obtain ⟨A6, c6, rfl⟩ := own_form hown; obtain ⟨hn6, hc6⟩ := own_cap hown; have hB6 : Below w5.heap.size w5 w6 := own_below hBad hz5 hlitd hgr; have hb6 := hbox.below hB6 hbl5; replace q0 := hb6.cell 0; replace q1 := hb6.cell 1; replace q2 := hb6.cell 2; simp only [List.getElem?_toArray, List.getElem?_cons_zero, List.getElem?_cons_succ] at q0 q1 q2; have hrd6 := Reads.of_own hown; rw [← encAs_app] at hrd6)
          | (go_simp; go_at_call 11; refine (run_end f0 f1 f2 a0 a1 a2 A6 60 c6 w6.heap.size ((5, 0, 0) :: l2.take 59) _ (by exact hrd6) (Nat.le_refl _) hn6 hc6 hok3.out hlen3).mono ?_; rintro e w7 ⟨d7, L7, cap7, fp7, rfl, hE7⟩; have hfin : OneAt w w5 (runD (mkD 4 3 (first3 f0 f1 f2)) ((5, 0, 0) :: l2.take 59)) (lastW (first3 f0 f1 f2) ((5, 0, 0) :: l2.take 59)) (.pointer (some ⟨d7, 0, none⟩)) (.slice L7 3 cap7) w7 := ⟨d7, fp7, L7, cap7, rfl, rfl, hE7.disk.base_le (Nat.le_trans hw5 hB6.size), own_base hE7.row.1 (Nat.le_trans hw5 hB6.size), hB6.trans (hE7.below.mono hB6.size)⟩; clear hE7))
        all_goals
          go_wp2_with fail
          go_meet
          exact hfin
    case rest =>
      obtain ⟨y, fpy, L3, cap3, rfl, rfl, hDy, hrt, hB6⟩ := hcut
      have hsim := (sim_zero (first3 f0 f1 f2)).run l1
      have hlst := last_filter l1 (first3 f0 f1 f2)
      rw [hpl.out] at hsim hlst
      rw [flush_first] at hDy
      rw [last_first] at hrt
      have hYX : p ≤ 59 → runD (mkD 4 3 (first3 f0 f1 f2)) (l2.take r) = runD (mkD 4 3 (first3 f0 f1 f2)) l2 ∧ lastW (first3 f0 f1 f2) (l2.take r) = lastW (first3 f0 f1 f2) l2 := by
        intro hp
        have : l2.take r = l2 := List.take_of_length_le (by have := hr.out; have := hpn.out; omega)
        rw [this]
        exact ⟨rfl, rfl⟩
      rw [← hlst] at hYX hrs
      generalize runD (mkD 4 3 (first3 f0 f1 f2)) (l2.take r) = Y at hDy hYX
      generalize runD (mkD 4 3 (first3 f0 f1 f2)) l1 = D at *
      generalize runD (mkD 4 3 (first3 f0 f1 f2)) l2 = X at *
      generalize lastW (first3 f0 f1 f2) l1 = l at *
      generalize lastW (first3 f0 f1 f2) (l2.take r) = t at hrt hYX
      have hS : Tri w d x y fp fpx fpy D X Y (.slice L 3 cap) (.slice L2 3 cap2) (.slice L3 3 cap3) l t wc := ⟨hDd.new hB6, hDx.new hB6, hDy, row_new hrl hB6, row_new hrs hB6, hrt, below_and hB0 hB6⟩
      replace hYX := Lib.hid hYX
      clear hDd hDx hDy hrl hrs hrt hB0 hB6 hlst hrd0 hrp hrr hok hok2 hok3 hbox q0 q1 q2 hs1 hs2 hwc
      have hD1 := Lib.hid hfd.ws
      have hX1 := Lib.hid hfx.ws
      have hD2 : D.es.length ≤ 60 := hfd.es
      have hX2 : X.es.length ≤ 60 := hfx.es
      have hsw := hsim.ws
      have hsf := hsim.flush
      have hsl := hsim.len
      have hse := hsim.ep
      replace hsw := Lib.hid hsw
      replace hsf := Lib.hid hsf
      replace hsl := Lib.hid hsl
      replace hse := Lib.hid hse
      replace hsim := Lib.hid hsim
      have tA := Lib.hid trivial
      have tB := Lib.hid trivial
      have tC := Lib.hid trivial
      have tD := Lib.hid trivial
      have tE := Lib.hid trivial
      have tF := Lib.hid trivial
      have tG := Lib.hid trivial
      have tH := Lib.hid trivial
      have tI := Lib.hid trivial
      go_upto_region 10 with (first
        | (go_at_call 15; clear tA; refine (words_eq l hS.rl hS.rs (by omega)).mono ?_; rintro e w6 ⟨rfl, hB8⟩; replace hS := hS.new hB8; clear hB8)
        | (go_at_call 12; clear tB; refine (kept_n hS.dd hD1.out rfl).mono ?_; rintro e w8 ⟨A8, c8, rfl, hr8, hB8⟩; replace hS := hS.new hB8; clear hB8)
        | (go_at_call 12; clear tC; refine (kept_n hS.dx hX1.out hsw.out.symm).mono ?_; rintro e w9 ⟨A9, c9, rfl, hr9, hB8⟩; replace hS := hS.new hB8; replace hr8 := row_new hr8 hB8; clear hB8)
        | (go_at_call 15; clear tD; refine (words_eq D.ws hr8 hr9 (by omega)).mono ?_; rintro e w10 ⟨rfl, hB8⟩; replace hS := hS.new hB8; clear hB8 hr8 hr9)
        | (go_at_call 19; clear tE; refine (seen_n hS.dd hD1.out rfl).mono ?_; rintro e w8 ⟨A8, c8, rfl, hr8, hB8⟩; replace hS := hS.new hB8; clear hB8)
        | (go_at_call 19; clear tF; refine (seen_n hS.dx hX1.out hsf.out.symm).mono ?_; rintro e w9 ⟨A9, c9, rfl, hr9, hB8⟩; replace hS := hS.new hB8; replace hr8 := row_new hr8 hB8; clear hB8)
        | (go_at_call 15; clear tG; refine (words_eq (flushW D.ws D.es) hr8 hr9 (by omega)).mono ?_; rintro e w10 ⟨rfl, hB8⟩; replace hS := hS.new hB8; clear hB8 hr8 hr9)
        | (go_at_call 13; clear tH; refine (cache_n (es := D.es) hS.dd rfl rfl).mono ?_; rintro e w8 ⟨A8, c8, rfl, hr8, hB8⟩; replace hS := hS.new hB8; clear hB8 hr8)
        | (go_at_call 13; clear tI; refine (cache_n (es := X.es) hS.dx hsl.out.symm rfl).mono ?_; rintro e w9 ⟨A9, c9, rfl, hr9, hB8⟩; replace hS := hS.new hB8; clear hB8 hr9)
        | (go_at_call 14; refine (epoch_n hS.dx hse.out).mono ?_; rintro e w10 ⟨rfl, rfl⟩))
      go_wp2_with (go_at_call 13; refine (cache_n (es := X.es) hS.dx hsl.out.symm rfl).mono ?_; rintro e w9 ⟨XA, cx, rfl, hX, hB8⟩; have hbX := hS.below.size; replace hS := hS.new hB8; replace hX := own_base hX hbX; clear hB8 hbX)
      obtain ⟨N, hN⟩ : ∃ N, N = D.es.length := ⟨_, rfl⟩
      rw [← hN] at hX ⊢
      have hN60 : N ≤ 60 := by rw [hN]; exact hD2
      replace hN := Lib.hid hN
      go_loopw [99] (fun i wr => ∃ k : Nat, k ≤ N ∧ i = .int .i64 k ∧ Tri w d x y fp fpx fpy D X Y (.slice L 3 cap) (.slice L2 3 cap2) (.slice L3 3 cap3) l t wr ∧ wr.ownsRow w.heap.size 38 3 (.slice XA N cx) N (encs X.es)) (fun i _ => N - (intOf i).toNat)
      case atStart => exact ⟨0, by omega, rfl, hS, hX⟩
      case round =>
        clear hS hX
        obtain ⟨k, hk, rfl, hS, hX⟩ := hrel
        by_cases hlt : k < N
        · obtain ⟨⟨xb, xv, xe⟩, hxk⟩ : ∃ z, X.es[k]? = some z := ⟨_, List.getElem?_eq_getElem (by rw [← hsl.out, ← hN.out]; exact hlt)⟩
          obtain ⟨⟨db, dv, de⟩, hdk⟩ : ∃ z, D.es[k]? = some z := ⟨_, List.getElem?_eq_getElem (by rw [← hN.out]; exact hlt)⟩
          have hpe : db = xb ∧ dv = xv := by
            have h1 := congrArg (fun m => m[k]?) hsim.out.es
            simp only [List.getElem?_map, hxk, hdk, Option.map_some, pE] at h1
            injection h1 with h1
            injection h1 with h1 h2
            exact ⟨h1, h2⟩
          obtain ⟨rfl, rfl⟩ := hpe
          obtain rfl : xe = 0 := hsim.out.e0 _ (List.mem_of_getElem? hxk)
          obtain ⟨g, rfl, _, q0, q1, q2⟩ := own_ent hX hxk
          dsimp only at q0 q1 q2
          have t1 : (k : Int) < (N : Int) := by omega
          have t3 : 0 ≤ (k : Int) := by omega
          have hA := (Below.refl _ wr).alloc (Nat.le_refl _) (.cells #[.int .i64 db, .int .u32 dv, .int .i64 0] 38)
          have hbox := Blk.new wr 38 #[.int .i64 db, .int .u32 dv, .int .i64 0]
          have hbl2 : wr.heap.size < (wr.alloc (.cells #[.int .i64 db, .int .u32 dv, .int .i64 0] 38)).heap.size := by simp
          replace hS := hS.new hA
          replace hX := row_new hX hA
          clear hA
          replace hxk := Lib.hid hxk
          replace hdk := Lib.hid hdk
          go_upto_region 14 with (go_at_call 13; refine (cache_n (es := D.es) hS.dd hN.out.symm rfl).mono ?_; rintro e w11 ⟨DA, cd, rfl, hDr, hB8⟩; replace hS := hS.new hB8; replace hX := row_new hX hB8; replace hbox := hbox.below hB8 hbl2; clear hB8)
          obtain ⟨gd, rfl, _, r0, r1, r2⟩ := own_ent hDr hdk.out
          have b0 := hbox.cell 0
          have b1 := hbox.cell 1
          have b2 := hbox.cell 2
          simp only [List.getElem?_toArray, List.getElem?_cons_zero, List.getElem?_cons_succ] at b0 b1 b2
          dsimp only at r0 r1 r2
          have t4 : decide (N ≤ k) = false := by simp; omega
          have t5 : decide ((N : Int) ≤ (k : Int)) = false := by simp; omega
          have t6 : ¬ (N : Int) ≤ (k : Int) := by omega
          clear hDr
          go_quiet (fail)
          go_wp2
          have hQ : ∀ q, Tri w d x y fp fpx fpy D X Y (.slice L 3 cap) (.slice L2 3 cap2) (.slice L3 3 cap3) l t (w11.drewN q) ∧ (w11.drewN q).ownsRow w.heap.size 38 3 (.slice (some ⟨g, 0, none⟩) N cx) N (encs X.es) := fun q => ⟨hS.new (below_drewN (Below.refl _ _) q), row_new hX (below_drewN (Below.refl _ _) q)⟩
          replace hQ := Lib.hid hQ
          go_roundw
          case rel => exact ⟨k + 1, by omega, by go_num, hQ.out _⟩
          case measure => simp [intOf]; omega
        · obtain rfl : k = N := by omega
          clear hX
          by_cases hp : p ≤ 59
          · have i1 : ¬ 59 < (p : Int) := by omega
            have i2 : decide (59 < (p : Int)) = false := by simp; omega
            obtain ⟨hYe, hte⟩ := hYX.out hp
            subst hYe hte
            have tJ := Lib.hid trivial
            have tK := Lib.hid trivial
            have tL := Lib.hid trivial
            have tM := Lib.hid trivial
            have tN := Lib.hid trivial
            go_wp2_with (first
              | (go_at_call 15; clear tJ; refine (words_eq t hS.rt hS.rs (by omega)).mono ?_; rintro e w6 ⟨rfl, hB8⟩; replace hS := hS.new hB8; clear hB8)
              | (go_at_call 12; clear tK; refine (kept_n hS.dy hX1.out rfl).mono ?_; rintro e w8 ⟨A8, c8, rfl, hr8, hB8⟩; replace hS := hS.new hB8; clear hB8)
              | (go_at_call 12; clear tL; refine (kept_n hS.dx hX1.out rfl).mono ?_; rintro e w9 ⟨A9, c9, rfl, hr9, hB8⟩; replace hS := hS.new hB8; replace hr8 := row_new hr8 hB8; clear hB8)
              | (go_at_call 15; refine (words_eq Y.ws hr8 hr9 (by omega)).mono ?_; rintro e w10 ⟨rfl, hB8⟩; replace hS := hS.new hB8; clear hB8 hr8 hr9)
              | (go_at_call 13; clear tM; refine (cache_n (es := Y.es) hS.dy rfl rfl).mono ?_; rintro e w8 ⟨A8, c8, rfl, hr8, hB8⟩; replace hS := hS.new hB8; clear hB8)
              | (go_at_call 13; clear tN; refine (cache_n (es := Y.es) hS.dx rfl rfl).mono ?_; rintro e w9 ⟨A9, c9, rfl, hr9, hB8⟩; replace hS := hS.new hB8; replace hr8 := row_new hr8 hB8; clear hB8)
              | (go_at_call 23; refine (ents_eq Y.es hr8 hr9 (by omega)).mono ?_; rintro e w10 ⟨rfl, hB8⟩; replace hS := hS.new hB8; clear hB8 hr8 hr9))
            go_ret
            exact ⟨rfl, hS.below⟩
          · have i1 : 59 < (p : Int) := by omega
            have i2 : decide (59 < (p : Int)) = true := by simp; omega
            go_wp2
            go_ret
            exact ⟨rfl, hS.below⟩
end Go.Proofs.Ythhchccjpgpibaa
