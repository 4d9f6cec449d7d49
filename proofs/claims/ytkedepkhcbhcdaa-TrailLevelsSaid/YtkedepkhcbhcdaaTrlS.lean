/- Trails: law 9 (levels), the walk. -/
import Derived.Test.YtkedepkhcbhcdaaTrlR
namespace Go.Proofs.Ytkedepkhcbhcdaa
open Go Go.RowKit Go.Shelf
set_option linter.unusedVariables false
set_option linter.unusedSimpArgs false
set_option maxHeartbeats 4000000
set_option maxRecDepth 100000 in
theorem law_levels (A : Option Addr) (n c B : Nat) (l : List Int) (w : World) (hrd : Reads w B 1 A n (l.map (Value.int .u8))) (hB : B ≤ w.heap.size) (hm : n ≤ 9223372036854775807) (hc : n ≤ c) (hl : ∀ x ∈ l, 0 ≤ x ∧ x ≤ 255) :
    Calls Try.prog 9 #[.slice A n c] w fun e w' => e = .returned (.bool true) ∧ Below w.heap.size w w' := by
  have hput := put_ok A n c B l w hrd hB hm hc hl
  obtain ⟨D, hD⟩ : ∃ D, D = putT (l.take 40) := ⟨_, rfl⟩
  obtain ⟨h8, h41⟩ := putT_is l
  rw [← hD] at hput h8 h41
  clear hD
  replace hput := Lib.hid hput
  replace h8 := Lib.hid h8
  have hlen2 : (lits D).length = D.its.length := lits_len D
  replace hlen2 := Lib.hid hlen2
  go_enter Try.func9, Try.ntmps9
  go_upto_region 5 with (first
    | (go_at_call 19; refine hput.out.mono ?_; rintro e W' ⟨d, A1, c1, A2, c2, rfl, hS⟩; have hst1 := hS.ok.st2; have hfew : D.its.length ≤ 8 := (by have := hS.ok.few; have := h8.out; omega); have hcap := own_cap (hS.row (r := ⟨27, .slice A1 D.its.length c1, lits D⟩) (by simp)))
    | (go_at_call 23; refine (run_len hS rfl).mono ?_; rintro e W6 ⟨rfl, rfl⟩)
    | (go_at_call 22; refine (run_literals_n hS rfl rfl).mono ?_; rintro e W4 ⟨A5, c5, rfl, hR5, hS4⟩; clear hS; have hS := hS4; clear hS4)
    | (go_at_call 21; refine (equal_lits A5 A1 D.its.length c5 c1 (lits D) _ _ _ hR5 (hS.reads (r := ⟨27, .slice A1 D.its.length c1, lits D⟩) (by simp) hlen2.out) (by omega)).mono ?_; rintro e W5 ⟨rfl, hB5⟩; have hS5 := hS.new hB5; clear hS; have hS := hS5; clear hS5)
    | (go_at_call 20; refine (run_now hS rfl).mono ?_; rintro e W4 ⟨rfl, rfl⟩))
  have hok := hS.ok
  replace hok := Lib.hid hok
  go_loopw [41] (fun i wr => ∃ j : Nat, j ≤ D.st.length ∧ i = .int .i64 j ∧ Run w [⟨27, .slice A1 D.its.length c1, lits D⟩, ⟨3, .slice A2 D.its.length c2, lvls D⟩] d D wr) (fun i _ => D.st.length - (intOf i).toNat)
  case atStart => exact ⟨0, by omega, rfl, hS⟩
  case round =>
    clear hS
    obtain ⟨j, hj, rfl, hS⟩ := hrel
    have hj0 : 0 ≤ (j : Int) := by omega
    have hjs : (j : Int) ≤ 41 := by omega
    by_cases hlt : j < D.st.length
    · obtain ⟨s, hs⟩ : ∃ s, D.st[j]? = some s := ⟨_, List.getElem?_eq_getElem hlt⟩
      have hsl := hok.out.sts s (List.mem_of_getElem? hs)
      have hst : startD D (j : Int) = (s : Int) ∧ startE D (j : Int) = 0 := by
        refine ⟨?_, if_pos (by omega)⟩
        unfold startD
        rw [if_pos (by omega), Int.toNat_natCast, sts, List.getElem?_map, hs]
        rfl
      have hj00 : j = 0 → s = 0 := by
        intro e
        rw [e, hok.out.st0] at hs
        injection hs with hs
        exact hs.symm
      have hnx : ∀ x, D.its[s]? = some x → ¬ ((x.lvl : Int) < (j : Int)) := by
        intro x hx
        have := (hok.out.lvs s x hx j s hs).1 (Nat.le_refl _)
        omega
      have hpx : ∀ x, 0 < s → D.its[s - 1]? = some x → ¬ ((j : Int) ≤ (x.lvl : Int)) := by
        intro x h0 hx
        have := hok.out.lvs (s - 1) x hx j s hs
        omega
      have t1 : (j : Int) < (D.st.length : Int) := by omega
      have t2 : ¬ ((s : Int) < 0) := by omega
      have t3 : ¬ ((D.its.length : Int) < (s : Int)) := by omega
      have hxe : s < D.its.length → ∃ x, D.its[s]? = some x := fun h => ⟨_, List.getElem?_eq_getElem h⟩
      have hpe : 0 < s → ∃ x, D.its[s - 1]? = some x := fun h => ⟨_, List.getElem?_eq_getElem (by omega)⟩
      have hlv : ∀ (k : Nat) (x : Itm), D.its[k]? = some x → (lvls D)[k]? = some (x.lvl : Int) := fun k x h => by rw [lvls, List.getElem?_map, h]; rfl
      clear hs
      replace hst := Lib.hid hst
      replace hj00 := Lib.hid hj00
      replace hnx := Lib.hid hnx
      replace hpx := Lib.hid hpx
      replace hxe := Lib.hid hxe
      replace hpe := Lib.hid hpe
      replace hlv := Lib.hid hlv
      by_cases hc1 : s < D.its.length
      · rcases Nat.eq_zero_or_pos s with hz | hz
        · subst hz
          rcases Nat.eq_zero_or_pos j with hjz | hjz
          · subst hjz
            have hst2 : startD D (0 : Int) = (0 : Int) ∧ startE D (0 : Int) = 0 := by simpa using hst.out
            clear t2 t3
            replace hst2 := Lib.hid hst2
            obtain ⟨x, hx⟩ := hxe.out hc1
            have c1x : ¬ ((x.lvl : Int) < (0 : Int)) := by omega
            have c3x : (0 : Int) < (D.its.length : Int) := by omega
            have c2x : ¬ ((D.its.length : Int) < (0 : Int)) := by omega
            obtain ⟨ad, z, hA, _, hz, q0⟩ := reads_num (hS.reads (r := ⟨3, .slice A2 D.its.length c2, lvls D⟩) (by simp) (lvls_len D)) (show 0 < D.its.length by omega)
            subst hA
            clear hz q0 z
            have q1 := hS.num (r := ⟨3, .slice (some ad) D.its.length c2, lvls D⟩) (by simp) rfl (lvls_len D) (hlv.out _ x hx)
            have q1' := q1
            simp [Addr.add] at q1'
            clear hx
            go_wp2_with (go_at_call 27; refine (run_start hS _ (x := (0 : Int)) (e := 0) hst2.out.1 hst2.out.2).mono ?_; rintro e W4 ⟨rfl, rfl⟩)
            go_roundw
            case rel => exact ⟨1, by omega, by go_num, hS⟩
            case measure => simp [intOf]; omega
          · have hjb : ((j : Int) == 0) = false := by simp; omega
            have hjp : 0 < (j : Int) := by omega
            have hst2 : startD D (j : Int) = (0 : Int) ∧ startE D (j : Int) = 0 := by simpa using hst.out
            clear t2 t3
            replace hst2 := Lib.hid hst2
            obtain ⟨x, hx⟩ := hxe.out hc1
            have c1x : ¬ ((x.lvl : Int) < (j : Int)) := hnx.out x hx
            have c3x : (0 : Int) < (D.its.length : Int) := by omega
            have c2x : ¬ ((D.its.length : Int) < (0 : Int)) := by omega
            obtain ⟨ad, z, hA, _, hz, q0⟩ := reads_num (hS.reads (r := ⟨3, .slice A2 D.its.length c2, lvls D⟩) (by simp) (lvls_len D)) (show 0 < D.its.length by omega)
            subst hA
            clear hz q0 z
            have q1 := hS.num (r := ⟨3, .slice (some ad) D.its.length c2, lvls D⟩) (by simp) rfl (lvls_len D) (hlv.out _ x hx)
            have q1' := q1
            simp [Addr.add] at q1'
            clear hx
            go_wp2_with (go_at_call 27; refine (run_start hS _ (x := (0 : Int)) (e := 0) hst2.out.1 hst2.out.2).mono ?_; rintro e W4 ⟨rfl, rfl⟩)
            go_roundw
            case rel => exact ⟨j + 1, by omega, by go_num, hS⟩
            case measure => simp [intOf]; omega
        · obtain ⟨s, rfl⟩ : ∃ t, s = t + 1 := ⟨s - 1, by omega⟩
          have hjp : 0 < j := by rcases Nat.eq_zero_or_pos j with e | e; exact absurd (hj00.out e) (by omega); exact e
          have hjb : ((j : Int) == 0) = false := by simp; omega
          have hjp2 : 0 < (j : Int) := by omega
          have hst2 : startD D (j : Int) = ((s : Int) + 1) ∧ startE D (j : Int) = 0 := by simpa using hst.out
          clear t2 t3
          replace hst2 := Lib.hid hst2
          obtain ⟨x, hx⟩ := hxe.out hc1
          have c1x : ¬ ((x.lvl : Int) < (j : Int)) := hnx.out x hx
          have c3x : ((s : Int) + 1) < (D.its.length : Int) := by omega
          have c2x : ¬ ((D.its.length : Int) < ((s : Int) + 1)) := by omega
          have c6x : ¬ ((s : Int) + 1 < 0) := by omega
          have c7x : 0 < (s : Int) + 1 := by omega
          obtain ⟨y, hy⟩ := hpe.out (by omega)
          have c1y := hpx.out y (by omega) hy
          simp only [Nat.add_sub_cancel] at hy
          obtain ⟨ad, z, hA, _, hz, q0⟩ := reads_num (hS.reads (r := ⟨3, .slice A2 D.its.length c2, lvls D⟩) (by simp) (lvls_len D)) (show (s + 1) < D.its.length by omega)
          subst hA
          clear hz q0 z
          have q1 := hS.num (r := ⟨3, .slice (some ad) D.its.length c2, lvls D⟩) (by simp) rfl (lvls_len D) (hlv.out _ x hx)
          have q1' := q1
          simp [Addr.add] at q1'
          have q2 := hS.num (r := ⟨3, .slice (some ad) D.its.length c2, lvls D⟩) (by simp) rfl (lvls_len D) (hlv.out _ y hy)
          clear hx
          clear hy
          go_wp2_with (go_at_call 27; refine (run_start hS _ (x := ((s : Int) + 1)) (e := 0) hst2.out.1 hst2.out.2).mono ?_; rintro e W4 ⟨rfl, rfl⟩)
          go_roundw
          case rel => exact ⟨j + 1, by omega, by go_num, hS⟩
          case measure => simp [intOf]; omega
      · rcases Nat.eq_zero_or_pos s with hz | hz
        · subst hz
          rcases Nat.eq_zero_or_pos j with hjz | hjz
          · subst hjz
            have hst2 : startD D (0 : Int) = (0 : Int) ∧ startE D (0 : Int) = 0 := by simpa using hst.out
            clear t2 t3
            replace hst2 := Lib.hid hst2
            have c3x : ¬ ((0 : Int) < (D.its.length : Int)) := by omega
            have c2x : ¬ ((D.its.length : Int) < (0 : Int)) := by omega
            go_wp2_with (go_at_call 27; refine (run_start hS _ (x := (0 : Int)) (e := 0) hst2.out.1 hst2.out.2).mono ?_; rintro e W4 ⟨rfl, rfl⟩)
            go_roundw
            case rel => exact ⟨1, by omega, by go_num, hS⟩
            case measure => simp [intOf]; omega
          · have hjb : ((j : Int) == 0) = false := by simp; omega
            have hjp : 0 < (j : Int) := by omega
            have hst2 : startD D (j : Int) = (0 : Int) ∧ startE D (j : Int) = 0 := by simpa using hst.out
            clear t2 t3
            replace hst2 := Lib.hid hst2
            have c3x : ¬ ((0 : Int) < (D.its.length : Int)) := by omega
            have c2x : ¬ ((D.its.length : Int) < (0 : Int)) := by omega
            go_wp2_with (go_at_call 27; refine (run_start hS _ (x := (0 : Int)) (e := 0) hst2.out.1 hst2.out.2).mono ?_; rintro e W4 ⟨rfl, rfl⟩)
            go_roundw
            case rel => exact ⟨j + 1, by omega, by go_num, hS⟩
            case measure => simp [intOf]; omega
        · obtain ⟨s, rfl⟩ : ∃ t, s = t + 1 := ⟨s - 1, by omega⟩
          have hjp : 0 < j := by rcases Nat.eq_zero_or_pos j with e | e; exact absurd (hj00.out e) (by omega); exact e
          have hjb : ((j : Int) == 0) = false := by simp; omega
          have hjp2 : 0 < (j : Int) := by omega
          have hst2 : startD D (j : Int) = ((s : Int) + 1) ∧ startE D (j : Int) = 0 := by simpa using hst.out
          clear t2 t3
          replace hst2 := Lib.hid hst2
          have c3x : ¬ (((s : Int) + 1) < (D.its.length : Int)) := by omega
          have c2x : ¬ ((D.its.length : Int) < ((s : Int) + 1)) := by omega
          have c6x : ¬ ((s : Int) + 1 < 0) := by omega
          have c7x : 0 < (s : Int) + 1 := by omega
          obtain ⟨y, hy⟩ := hpe.out (by omega)
          have c1y := hpx.out y (by omega) hy
          simp only [Nat.add_sub_cancel] at hy
          obtain ⟨ad, z, hA, _, hz, q0⟩ := reads_num (hS.reads (r := ⟨3, .slice A2 D.its.length c2, lvls D⟩) (by simp) (lvls_len D)) (show s < D.its.length by omega)
          subst hA
          clear hz q0 z
          have q2 := hS.num (r := ⟨3, .slice (some ad) D.its.length c2, lvls D⟩) (by simp) rfl (lvls_len D) (hlv.out _ y hy)
          clear hy
          go_wp2_with (go_at_call 27; refine (run_start hS _ (x := ((s : Int) + 1)) (e := 0) hst2.out.1 hst2.out.2).mono ?_; rintro e W4 ⟨rfl, rfl⟩)
          go_roundw
          case rel => exact ⟨j + 1, by omega, by go_num, hS⟩
          case measure => simp [intOf]; omega
    · have hje : j = D.st.length := by omega
      subst hje
      have hn8 : (D.n : Int) = 8 := by rw [h8.out]; rfl
      replace hn8 := Lib.hid hn8
      go_wp2_with fail
      go_loopw [10, 11] (fun cv v wr => ∃ j : Nat, j ≤ 8 ∧ cv = .int .i64 (cntV D j : Nat) ∧ v = .int .i64 ((j : Int) + 1) ∧ Run w [⟨27, .slice A1 D.its.length c1, lits D⟩, ⟨3, .slice A2 D.its.length c2, lvls D⟩] d D wr) (fun _ v _ => 10 - (intOf v).toNat)
      case atStart => exact ⟨0, by omega, rfl, rfl, hS⟩
      case round =>
        clear hS
        obtain ⟨j, hj, rfl, rfl, hS⟩ := hrel
        have hj0 : 0 ≤ (j : Int) := by omega
        have hj8 : (j : Int) ≤ 8 := by omega
        have hcl := cntV_le D j
        by_cases hlt : j < 8
        · have t1 : (j : Int) + 1 ≤ 8 := by omega
          obtain ⟨V, hV⟩ : ∃ V : Int, V = (j : Int) + 1 := ⟨_, rfl⟩
          obtain ⟨_, hz, hng⟩ := val_any h8.out V (by omega) (by omega)
          have v1 : 1 ≤ V := by omega
          have v2 : V ≤ 8 := by omega
          rw [← hV]
          have hzr : valD D V = 0 ∨ valD D V = 1 ∨ valD D V = -1 := hz
          clear hz
          obtain ⟨z, hz⟩ : ∃ z, valD D V = z := ⟨_, rfl⟩
          obtain ⟨z', hz'⟩ : ∃ z, valD D (-V) = z := ⟨_, rfl⟩
          rw [hz] at hzr hng
          rw [hz'] at hng
          have hzz : z' = -z := hng
          replace hng := hz'
          by_cases hz0 : z = 0
          · have hcn : ((cntV D j : Nat) : Int) = ((cntV D (j + 1) : Nat) : Int) := by
              show _ = ((cntV D j + (if valD D ((j : Int) + 1) = 0 then 0 else 1) : Nat) : Int)
              rw [← hV, hz]
              simp [hz0]
            have hV1 : V + 1 = ((j + 1 : Nat) : Int) + 1 := by omega
            have e1 : (z == 0) = true := by simpa using hz0
            have e2 : (z != 0) = false := by simpa using hz0
            have e3 : (z == -z') = true := by simp; omega
            have e4 : (z != -z') = false := by simp; omega
            have e5 : -1 ≤ z' := by omega
            have e6 : z' ≤ 1 := by omega
            clear hz0 hzz
            replace hV1 := Lib.hid hV1
            clear hV
            replace hz := Lib.hid hz
            replace hcn := Lib.hid hcn
            replace hng := Lib.hid hng
            have tk0 := Lib.hid trivial
            have tk1 := Lib.hid trivial
            have tk2 := Lib.hid trivial
            go_wp2_with (first
              | (go_at_call 32; refine (run_vars hS (x := 8) hn8.out).mono ?_; rintro e W4 ⟨rfl, rfl⟩)
              | (go_at_call 17; clear tk0; refine (run_value hS V (x := z) hz.out).mono ?_; rintro e W4 ⟨rfl, hS4⟩; clear hS; have hS := hS4; clear hS4)
              | (go_at_call 17; clear tk1; refine (run_value hS (-V) (x := z') hng.out).mono ?_; rintro e W4 ⟨rfl, hS4⟩; clear hS; have hS := hS4; clear hS4)
              | (go_at_call 17; clear tk2; refine (run_value hS V (x := z) hz.out).mono ?_; rintro e W4 ⟨rfl, hS4⟩; clear hS; have hS := hS4; clear hS4))
            go_roundw
            case rel => exact ⟨j + 1, by omega, by simpa using hcn.out, by rw [hV1.out], hS⟩
            case measure => have := hV1.out; simp [intOf]; omega
          · have hcn : ((cntV D j : Nat) : Int) + 1 = ((cntV D (j + 1) : Nat) : Int) := by
              show _ = ((cntV D j + (if valD D ((j : Int) + 1) = 0 then 0 else 1) : Nat) : Int)
              rw [← hV, hz]
              simp [hz0]
            have hV1 : V + 1 = ((j + 1 : Nat) : Int) + 1 := by omega
            have e1 : (z == 0) = false := by simpa using hz0
            have e2 : (z != 0) = true := by simpa using hz0
            have e3 : (z == -z') = true := by simp; omega
            have e4 : (z != -z') = false := by simp; omega
            have e5 : -1 ≤ z' := by omega
            have e6 : z' ≤ 1 := by omega
            clear hz0 hzz
            replace hV1 := Lib.hid hV1
            clear hV
            replace hz := Lib.hid hz
            replace hcn := Lib.hid hcn
            replace hng := Lib.hid hng
            have tk0 := Lib.hid trivial
            have tk1 := Lib.hid trivial
            have tk2 := Lib.hid trivial
            go_wp2_with (first
              | (go_at_call 32; refine (run_vars hS (x := 8) hn8.out).mono ?_; rintro e W4 ⟨rfl, rfl⟩)
              | (go_at_call 17; clear tk0; refine (run_value hS V (x := z) hz.out).mono ?_; rintro e W4 ⟨rfl, hS4⟩; clear hS; have hS := hS4; clear hS4)
              | (go_at_call 17; clear tk1; refine (run_value hS (-V) (x := z') hng.out).mono ?_; rintro e W4 ⟨rfl, hS4⟩; clear hS; have hS := hS4; clear hS4)
              | (go_at_call 17; clear tk2; refine (run_value hS V (x := z) hz.out).mono ?_; rintro e W4 ⟨rfl, hS4⟩; clear hS; have hS := hS4; clear hS4))
            go_roundw
            case rel => exact ⟨j + 1, by omega, by simpa using hcn.out, by rw [hV1.out], hS⟩
            case measure => have := hV1.out; simp [intOf]; omega
        · obtain rfl : j = 8 := by omega
          rw [cnt_all hok.out h8.out]
          clear hcl
          go_wp2_with (go_at_call 32; refine (run_vars hS (x := 8) hn8.out).mono ?_; rintro e W4 ⟨rfl, rfl⟩)
          go_loopw [130] (fun i wr => ∃ j : Nat, j ≤ D.its.length ∧ i = .int .i64 j ∧ Run w [⟨27, .slice A1 D.its.length c1, lits D⟩, ⟨3, .slice A2 D.its.length c2, lvls D⟩] d D wr) (fun i _ => D.its.length - (intOf i).toNat)
          case atStart => exact ⟨0, by omega, rfl, hS⟩
          case round =>
            clear hS
            obtain ⟨j, hj, rfl, hS⟩ := hrel
            have hj0 : 0 ≤ (j : Int) := by omega
            have hj8 : (j : Int) ≤ 8 := by omega
            by_cases hlt : j < D.its.length
            · rcases Nat.eq_zero_or_pos j with hjz | hjz
              · subst hjz
                obtain ⟨x, hx⟩ : ∃ x, D.its[0]? = some x := ⟨_, List.getElem?_eq_getElem (by omega)⟩
                have hb8 : x.lit ≠ 0 ∧ -8 ≤ x.lit ∧ x.lit ≤ 8 := by
                  have h1 := hok.out.lits x (List.mem_of_getElem? hx)
                  have h2 := h8.out
                  omega
                have hap := lit_apart hok.out hx
                have hp := hS.prefix_ (r := ⟨27, .slice A1 D.its.length c1, lits D⟩) (m := 0) (by simp) hlen2.out (by omega)
                obtain ⟨ad, y1, hA, _, hy1, q0⟩ := reads_num (hS.reads (r := ⟨27, .slice A1 D.its.length c1, lits D⟩) (by simp) (lits_len D)) (show 0 < D.its.length by omega)
                obtain ⟨ad2, y2, hA2, _, hy2, q2⟩ := reads_num (hS.reads (r := ⟨3, .slice A2 D.its.length c2, lvls D⟩) (by simp) (lvls_len D)) (show 0 < D.its.length by omega)
                subst hA
                subst hA2
                have hx2 : (lits D)[0]? = some x.lit := by rw [lits, List.getElem?_map, hx]; rfl
                have hx3 : (lvls D)[0]? = some (x.lvl : Int) := by rw [lvls, List.getElem?_map, hx]; rfl
                rw [hx2] at hy1
                rw [hx3] at hy2
                simp only [Option.some.injEq] at hy1 hy2
                subst hy1
                subst hy2
                have q0' := q0
                have q2' := q2
                simp [Addr.add] at q0' q2'
                have t5 : (0 : Int) < (D.its.length : Int) := by omega
                have t7 : (0 : Int) ≤ (c1 : Int) := by omega
                have t10 : 0 ≤ (0 : Int) := by omega
                have t8 : ¬ ((c1 : Int) < (0 : Int)) := by omega
                have hS9 := hS
                clear hx hx2 hx3 
                generalize x.lit = xl at *
                generalize (x.lvl : Int) = lx at *
                obtain ⟨hb0, hb1, hb2⟩ := hb8
                replace hap := Lib.hid hap
                replace hp := Lib.hid hp
                replace hS := Lib.hid hS
                have hA1 : ∀ nn, Calls Try.prog 33 #[.slice (some ad) 0 c1, .int .i64 (-xl)] (wr.drewN nn) fun e w2 => e = .returned (.bool false) ∧ ∃ m, w2 = wr.drewN m := fun nn =>
                  quiet_left (contains_no _ 0 c1 _ ((lits D).take 0) (-xl) _ (hp.out.drewN _) (by omega) (fun y hy => (hap.out y hy).2))
                have hA2 : ∀ nn, Calls Try.prog 33 #[.slice (some ad) 0 c1, .int .i64 xl] (wr.drewN nn) fun e w2 => e = .returned (.bool false) ∧ ∃ m, w2 = wr.drewN m := fun nn =>
                  quiet_left (contains_no _ 0 c1 _ ((lits D).take 0) xl _ (hp.out.drewN _) (by omega) (fun y hy => (hap.out y hy).1))
                replace hA1 := Lib.hid hA1
                replace hA2 := Lib.hid hA2
                go_wp2_with fail
                go_quiet (first
                  | (go_at_call 33; with_reducible exact hA1.out _)
                  | (go_at_call 33; with_reducible exact hA2.out _))
                go_wp2_with fail
                go_roundw
                case rel => exact ⟨1, by omega, by go_num, hS.out.new (below_drewN' _ _)⟩
                case measure => simp [intOf]; omega
              · obtain ⟨j, rfl⟩ : ∃ t, j = t + 1 := ⟨j - 1, by omega⟩
                obtain ⟨x, hx⟩ : ∃ x, D.its[(j + 1)]? = some x := ⟨_, List.getElem?_eq_getElem (by omega)⟩
                have hb8 : x.lit ≠ 0 ∧ -8 ≤ x.lit ∧ x.lit ≤ 8 := by
                  have h1 := hok.out.lits x (List.mem_of_getElem? hx)
                  have h2 := h8.out
                  omega
                have hap := lit_apart hok.out hx
                have hp := hS.prefix_ (r := ⟨27, .slice A1 D.its.length c1, lits D⟩) (m := (j + 1)) (by simp) hlen2.out (by omega)
                obtain ⟨y, hy⟩ : ∃ y, D.its[j]? = some y := ⟨_, List.getElem?_eq_getElem (by omega)⟩
                have hgr := lvl_grow hok.out hy hx
                have hgr2 : ¬ ((x.lvl : Int) < (y.lvl : Int)) := by omega
                have hgr3 : ((y.lvl : Int) ≤ (x.lvl : Int)) := by omega
                obtain ⟨ad, y1, hA, _, hy1, q0⟩ := reads_num (hS.reads (r := ⟨27, .slice A1 D.its.length c1, lits D⟩) (by simp) (lits_len D)) (show (j + 1) < D.its.length by omega)
                obtain ⟨ad2, y2, hA2, _, hy2, q2⟩ := reads_num (hS.reads (r := ⟨3, .slice A2 D.its.length c2, lvls D⟩) (by simp) (lvls_len D)) (show (j + 1) < D.its.length by omega)
                subst hA
                subst hA2
                have hx2 : (lits D)[(j + 1)]? = some x.lit := by rw [lits, List.getElem?_map, hx]; rfl
                have hx3 : (lvls D)[(j + 1)]? = some (x.lvl : Int) := by rw [lvls, List.getElem?_map, hx]; rfl
                rw [hx2] at hy1
                rw [hx3] at hy2
                simp only [Option.some.injEq] at hy1 hy2
                subst hy1
                subst hy2
                have q0' := q0
                have q2' := q2
                simp [Addr.add] at q0' q2'
                have q3 := hS.num (r := ⟨3, .slice (some ad2) D.its.length c2, lvls D⟩) (by simp) rfl (lvls_len D) (show (lvls D)[j]? = some (y.lvl : Int) by rw [lvls, List.getElem?_map, hy]; rfl)
                have t5 : ((j : Int) + 1) < (D.its.length : Int) := by omega
                have t7 : ((j : Int) + 1) ≤ (c1 : Int) := by omega
                have t9 : (j : Int) < (D.its.length : Int) := by omega
                have t10 : 0 ≤ ((j : Int) + 1) := by omega
                have t8 : ¬ ((c1 : Int) < ((j : Int) + 1)) := by omega
                have hS9 := hS
                clear hx hx2 hx3 hy
                generalize x.lit = xl at *
                generalize (x.lvl : Int) = lx at *
                generalize (y.lvl : Int) = ly at *
                have hgr4 : decide (lx < ly) = false := by simp; omega
                obtain ⟨hb0, hb1, hb2⟩ := hb8
                replace hap := Lib.hid hap
                replace hp := Lib.hid hp
                replace hS := Lib.hid hS
                have hA1 : ∀ nn, Calls Try.prog 33 #[.slice (some ad) (j + 1) c1, .int .i64 (-xl)] (wr.drewN nn) fun e w2 => e = .returned (.bool false) ∧ ∃ m, w2 = wr.drewN m := fun nn =>
                  quiet_left (contains_no _ (j + 1) c1 _ ((lits D).take (j + 1)) (-xl) _ (hp.out.drewN _) (by omega) (fun y hy => (hap.out y hy).2))
                have hA2 : ∀ nn, Calls Try.prog 33 #[.slice (some ad) (j + 1) c1, .int .i64 xl] (wr.drewN nn) fun e w2 => e = .returned (.bool false) ∧ ∃ m, w2 = wr.drewN m := fun nn =>
                  quiet_left (contains_no _ (j + 1) c1 _ ((lits D).take (j + 1)) xl _ (hp.out.drewN _) (by omega) (fun y hy => (hap.out y hy).1))
                replace hA1 := Lib.hid hA1
                replace hA2 := Lib.hid hA2
                go_wp2_with fail
                go_quiet (first
                  | (go_at_call 33; with_reducible exact hA1.out _)
                  | (go_at_call 33; with_reducible exact hA2.out _))
                go_wp2_with fail
                go_roundw
                case rel => exact ⟨j + 1 + 1, by omega, by go_num, hS.out.new (below_drewN' _ _)⟩
                case measure => simp [intOf]; omega
            · have hje : j = D.its.length := by omega
              subst hje
              go_wp2_with (first
                | (go_at_call 32; refine (run_vars hS (x := 8) hn8.out).mono ?_; rintro e W4 ⟨rfl, rfl⟩)
                | (go_at_call 18; refine (awake_ok _).mono ?_; rintro e W4 ⟨rfl, hB4⟩))
              go_ret
              exact ⟨rfl, hS.bel.trans (hB4.mono hS.bel.size)⟩
end Go.Proofs.Ytkedepkhcbhcdaa
