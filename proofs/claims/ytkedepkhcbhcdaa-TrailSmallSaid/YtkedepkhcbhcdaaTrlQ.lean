/- Trails: law 4 (back). -/
import Derived.Test.YtkedepkhcbhcdaaTrlP
namespace Go.Proofs.Ytkedepkhcbhcdaa
open Go Go.RowKit Go.Shelf
set_option linter.unusedVariables false
set_option linter.unusedSimpArgs false
set_option maxHeartbeats 4000000
theorem below_drew' (w : World) : Below w.heap.size w w.drew := ⟨rfl, rfl, rfl, Nat.le_refl _, fun _ _ => rfl⟩
theorem run_literals_n {w W : World} {rs : List Row} {d : Nat} {D : Trl} {m : Nat} {ls : List Int} (h : Run w rs d D W) (hm : D.its.length = m) (hl : lits D = ls) : Calls Try.prog 22 #[.pointer (some ⟨d, 0, none⟩)] W fun e w' => ∃ A' c', e = .returned (.slice A' m c') ∧ Reads w' w'.heap.size 1 A' m (litV ls) ∧ Run w rs d D w' := by
  subst hm; subst hl
  exact (run_literals h).mono fun e w' ⟨A', c', he, h1, h2⟩ => ⟨A', c', he, Reads.of_own h1, h2⟩
theorem Run.prefix_ {w W : World} {rs : List Row} {d : Nat} {D : Trl} {A : Option Addr} {n c m : Nat} (h : Run w rs d D W) {r : Row} (hr : r ∈ rs) (hl : r.l.length = n) (hm : m ≤ n) (hv : r.v = .slice A n c := by rfl) : Reads W W.heap.size 1 A m (litV (r.l.take m)) := by
  have := (h.reads hr hl hv).take m hm
  rwa [Nat.mul_one, litV, ← List.map_take] at this
theorem Run.num {w W : World} {rs : List Row} {d : Nat} {D : Trl} (h : Run w rs d D W) {r : Row} (hr : r ∈ rs) {ad : Addr} {n c k : Nat} {x : Int} (hv : r.v = .slice (some ad) n c) (hl : r.l.length = n) (hx : r.l[k]? = some x) : W.cell? (ad.add k) = some (.int .i64 x) := by
  have hk : k < n := by have := (List.getElem?_eq_some_iff.1 hx).1; omega
  obtain ⟨ad', y, hA, _, hy, hq⟩ := reads_num (h.reads hr hl hv) hk
  injection hA with hA
  subst hA
  rw [hx] at hy
  injection hy with hy
  subst hy
  exact hq
theorem Run.suffix_ {w W : World} {rs : List Row} {d : Nat} {D : Trl} {A : Option Addr} {n c m : Nat} (h : Run w rs d D W) {r : Row} (hr : r ∈ rs) (hl : r.l.length = n) (hm : m ≤ n) (hv : r.v = .slice A n c := by rfl) :
    (c = m → Reads W W.heap.size 1 A (n - m) (litV (r.l.drop m))) ∧ (c ≠ m → Reads W W.heap.size 1 (Option.map (fun x => x.add m) A) (n - m) (litV (r.l.drop m))) := by
  have h0 := h.row hr
  rw [hl, hv] at h0
  have hc := own_cap h0
  have := (h.reads hr hl hv).cut (cap := c) hm hc.1
  rw [Nat.mul_one, litV, ← List.map_drop] at this
  refine ⟨fun e => ?_, fun e => ?_⟩
  · rwa [if_pos e] at this
  · rwa [if_neg e] at this
set_option maxRecDepth 100000 in
theorem law_back (A : Option Addr) (n c B : Nat) (l : List Int) (w : World) (hrd : Reads w B 1 A n (l.map (Value.int .u8))) (hB : B ≤ w.heap.size) (hm : n ≤ 9223372036854775807) (hc : n ≤ c) (hl : ∀ x ∈ l, 0 ≤ x ∧ x ≤ 255) (tl : Int) (hto : 0 ≤ tl ∧ tl ≤ 255) :
    Calls Try.prog 4 #[.slice A n c, .int .u8 tl] w fun e w' => e = .returned (.bool true) ∧ Below w.heap.size w w' := by
  have hput := put_ok A n c B l w hrd hB hm hc hl
  obtain ⟨D, hD⟩ : ∃ D, D = putT (l.take 40) := ⟨_, rfl⟩
  obtain ⟨h8, h41⟩ := putT_is l
  rw [← hD] at hput h8 h41
  clear hD
  replace hput := Lib.hid hput
  replace h8 := Lib.hid h8
  obtain ⟨q1, q2⟩ := hto
  go_enter Try.func4, Try.ntmps4
  go_upto_region 5 with (first
    | (go_at_call 19; refine hput.out.mono ?_; rintro e W' ⟨d, A1, c1, A2, c2, rfl, hS⟩; have hst1 := hS.ok.st2)
    | (go_at_call 20; refine (run_now hS rfl).mono ?_; rintro e W4 ⟨rfl, rfl⟩))
  obtain ⟨k, hk, hkl⟩ : ∃ k : Nat, tl % (D.st.length : Int) = k ∧ k < D.st.length := by
    have h0 := Int.emod_nonneg tl (b := (D.st.length : Int)) (by omega)
    have h1 := Int.emod_lt_of_pos tl (b := (D.st.length : Int)) (by omega)
    exact ⟨(tl % (D.st.length : Int)).toNat, by omega, by omega⟩
  rw [hk]
  have hok := hS.ok
  obtain ⟨m, hml, hmi, hms, hmn, hmx⟩ := bck_its hok k hkl
  have hbk : bckE D k = 0 ∧ bckD D k = bck D k := ⟨if_pos (by omega), by unfold bckD; rw [if_pos (by omega), Int.toNat_natCast]⟩
  have hok2 := bck_ok hok k
  obtain ⟨D2, hD2⟩ : ∃ D2, D2 = bck D k := ⟨_, rfl⟩
  rw [← hD2] at hmi hms hmn hbk hok2
  have hml2 : D2.its.length = m := by rw [hmi, List.length_take]; omega
  have hnow : (D2.st.length : Int) - 1 = k := by omega
  clear hD2 hk
  replace hbk := Lib.hid hbk
  replace hmi := Lib.hid hmi
  replace hmx := Lib.hid hmx
  replace hnow := Lib.hid hnow
  replace hms := Lib.hid hms
  replace hmn := Lib.hid hmn
  replace hok := Lib.hid hok
  replace hok2 := Lib.hid hok2
  have hlen2 : (lits D).length = D.its.length := lits_len D
  have hfew : D.its.length ≤ 8 := by have := hok.out.few; have := h8.out; omega
  replace hlen2 := Lib.hid hlen2
  go_upto_region 8 with (first
    | (go_at_call 15; refine (run_back (D' := D2) hS k (e := 0) hbk.out.1 hbk.out.2).mono ?_; rintro e W4 ⟨rfl, hS4⟩; clear hS; have hS := hS4; clear hS4)
    | (go_at_call 20; refine (run_now hS hnow.out).mono ?_; rintro e W4 ⟨rfl, rfl⟩))
  go_loopw [10] (fun i wr => ∃ j : Nat, j ≤ m ∧ i = .int .i64 j ∧ Run w [⟨27, .slice A1 D.its.length c1, lits D⟩, ⟨3, .slice A2 D.its.length c2, lvls D⟩] d D2 wr) (fun i _ => m - (intOf i).toNat)
  case atStart => exact ⟨0, by omega, rfl, hS⟩
  case round =>
    clear hS
    obtain ⟨j, hj, rfl, hS⟩ := hrel
    have hjs : (j : Int) ≤ 8 := by omega
    have hj0 : 0 ≤ (j : Int) := by omega
    by_cases hlt : j < m
    · obtain ⟨ad, y, hA, _, hy, q0⟩ := reads_num (hS.reads (r := ⟨3, .slice A2 D.its.length c2, lvls D⟩) (by simp) (lvls_len D)) (show j < D.its.length by omega)
      subst hA
      have hyk : y ≤ (k : Int) := by
        rw [lvls, List.getElem?_map] at hy
        cases hx : D.its[j]? with
        | none => rw [hx] at hy; cases hy
        | some x =>
          rw [hx] at hy
          simp at hy
          have := (hmx.out j x hx).1 hlt
          omega
      clear hy
      have t1 : (j : Int) < (D.its.length : Int) := by omega
      go_wp2_with fail
      go_roundw
      case rel => exact ⟨j + 1, by omega, by go_num, hS⟩
      case measure => simp [intOf]; omega
    · obtain rfl : m = j := by omega
      go_upto_region 8 with (fail)
      go_cut [47, 48, 49, 50, 51, 52, 53, 54, 55] (fun _ _ _ _ _ _ _ _ s wx => s = .bool false ∧ wx = wr)
      case first =>
        by_cases hlm : m < D.its.length
        · obtain ⟨ad, y, hA, _, hy, q0⟩ := reads_num (hS.reads (r := ⟨3, .slice A2 D.its.length c2, lvls D⟩) (by simp) (lvls_len D)) hlm
          subst hA
          have hyk : ¬ y ≤ (k : Int) := by
            rw [lvls, List.getElem?_map] at hy
            cases hx : D.its[m]? with
            | none => rw [hx] at hy; cases hy
            | some x =>
              rw [hx] at hy
              simp at hy
              have := hmx.out m x hx
              omega
          clear hy
          have t1 : (m : Int) < (D.its.length : Int) := by omega
          go_wp2
          go_meet
          exact ⟨rfl, rfl⟩
        · have t1 : ¬ (m : Int) < (D.its.length : Int) := by omega
          go_wp2
          go_meet
          exact ⟨rfl, rfl⟩
      case rest =>
        obtain ⟨rfl, rfl⟩ := hcut
        go_wp2_with fail
        go_upto_region 10 with (fail)
        have hlm : (m : Int) ≤ (D.its.length : Int) := by omega
        have hl2 : lits D2 = (lits D).take m := by rw [lits, hmi.out, List.map_take]; rfl
        replace hl2 := Lib.hid hl2
        have hcap := own_cap (hS.row (r := ⟨27, .slice A1 D.its.length c1, lits D⟩) (by simp))
        have hmc : (m : Int) ≤ (c1 : Int) := by omega
        have hmc2 : ¬ (c1 : Int) < (m : Int) := by omega
        have hS0 := hS.new (below_drew' _)
        clear hS
        go_region_with (first
          | (go_at_call 22; refine (run_literals_n hS0 hml2 hl2.out).mono ?_; rintro e W4 ⟨A5, c5, rfl, hR5, hS4⟩)
          | (go_at_call 21; refine (equal_lits A5 A1 m c5 c1 ((lits D).take m) _ _ _ hR5 (hS4.prefix_ (r := ⟨27, .slice A1 D.its.length c1, lits D⟩) (by simp) hlen2.out hml) (by omega)).mono ?_; rintro e W5 ⟨rfl, hB5⟩; have hS5 := hS4.new hB5)
          | (go_at_call 23; refine (run_len hS5 (x := (m : Int)) (by omega)).mono ?_; rintro e W6 ⟨rfl, rfl⟩))
        clear hS0 hR5 hS4 hB5
        go_wp2_with fail
        go_loopw [73] (fun i wr => ∃ j : Nat, j ≤ D.its.length ∧ i = .int .i64 j ∧ Run w [⟨27, .slice A1 D.its.length c1, lits D⟩, ⟨3, .slice A2 D.its.length c2, lvls D⟩] d D2 wr) (fun i _ => D.its.length - (intOf i).toNat)
        case atStart => exact ⟨0, by omega, rfl, hS5⟩
        case round =>
          clear hS5
          obtain ⟨j, hj, rfl, hS⟩ := hrel
          have hjs : (j : Int) ≤ 8 := by omega
          have hj0 : 0 ≤ (j : Int) := by omega
          by_cases hlt : j < D.its.length
          · obtain ⟨x, hx⟩ : ∃ x, D.its[j]? = some x := ⟨_, List.getElem?_eq_getElem hlt⟩
            have hb8 : x.lit ≠ 0 ∧ -8 ≤ x.lit ∧ x.lit ≤ 8 := by
              have h1 := hok.out.lits x (List.mem_of_getElem? hx)
              have h2 := h8.out
              omega
            obtain ⟨ad, y1, hA, _, hy, q0⟩ := reads_num (hS.reads (r := ⟨27, .slice A1 D.its.length c1, lits D⟩) (by simp) (lits_len D)) hlt
            obtain ⟨ad2, y2, hA2, _, hy2, q2⟩ := reads_num (hS.reads (r := ⟨3, .slice A2 D.its.length c2, lvls D⟩) (by simp) (lvls_len D)) hlt
            subst hA
            subst hA2
            have hx2 : (lvls D)[j]? = some (x.lvl : Int) := by rw [lvls, List.getElem?_map, hx]; rfl
            replace hx2 := Lib.hid hx2
            rw [lits, List.getElem?_map, hx] at hy
            rw [lvls, List.getElem?_map, hx] at hy2
            simp only [Option.map_some, Option.some.injEq] at hy hy2
            subst hy
            subst hy2
            obtain ⟨v, hvar⟩ : ∃ v, varL x.lit = v := ⟨_, rfl⟩
            have hv8 := lit8 hb8
            have t5 : (j : Int) < (D.its.length : Int) := by omega
            have v1 : 1 ≤ v := by rw [← hvar]; exact hv8.2.1
            have v2 : v ≤ 8 := by rw [← hvar]; exact hv8.2.2.1
            by_cases hjm : j < m
            · skip
              obtain ⟨r1, r2, r3, r4⟩ := left_yes hok2.out (hmn.out.trans h8.out) hmi.out hx hjm hb8
              have g1 := congrArg (fun s : Sta => s.2.2.1) r1
              have g2 := congrArg (fun s : Sta => s.1) r1
              dsimp only at g1 g2
              clear r1
              have hjm2 : decide ((j : Int) < (m : Int)) = true := by simp; omega
              rw [hvar] at g1 g2 r2
              replace g1 := Lib.hid g1
              replace g2 := Lib.hid g2
              replace r2 := Lib.hid r2
              replace r3 := Lib.hid r3
              replace r4 := Lib.hid r4
              replace hvar := Lib.hid hvar
              have t0 := Lib.hid trivial
              have t1 := Lib.hid trivial
              generalize hyx : x.lit = y at *
              go_wp2_with (first
                | (go_at_call 25; refine (var_any y).mono ?_; rintro e W4 ⟨rfl, rfl⟩; rw [hvar.out])
                | (go_at_call 24; refine (run_place hS v (x := ((j : Int))) (b := true) (by omega) g1.out r2.out).mono ?_; rintro e W4 ⟨rfl, hS4⟩; clear hS; have hS := hS4; clear hS4)
                | (go_at_call 16; refine (run_level hS v (x := ((x.lvl : Int))) (b := true) (by omega) g2.out r2.out).mono ?_; rintro e W4 ⟨rfl, hS4⟩; clear hS; have hS := hS4; clear hS4; have q2 := hS.num (r := ⟨3, .slice (some ad2) D.its.length c2, lvls D⟩) (by simp) rfl (lvls_len D) hx2.out)
                | (go_at_call 17; clear t0; refine (run_value hS y (x := 1) r3.out).mono ?_; rintro e W4 ⟨rfl, hS4⟩; clear hS; have hS := hS4; clear hS4)
                | (go_at_call 17; clear t1; refine (run_value hS (-y) (x := (-1)) r4.out).mono ?_; rintro e W4 ⟨rfl, hS4⟩; clear hS; have hS := hS4; clear hS4))
              go_roundw
              case rel => exact ⟨j + 1, by omega, by go_num, hS⟩
              case measure => simp [intOf]; omega
            · skip
              obtain ⟨r1, r2, r3, r4⟩ := left_no hok.out (hmn.out.trans h8.out) hmi.out hx (by omega) hb8
              have g1 := congrArg (fun s : Sta => s.2.2.1) r1
              have g2 := congrArg (fun s : Sta => s.1) r1
              dsimp only at g1 g2
              clear r1
              have hjm2 : decide ((j : Int) < (m : Int)) = false := by simp; omega
              rw [hvar] at g1 g2 r2
              replace g1 := Lib.hid g1
              replace g2 := Lib.hid g2
              replace r2 := Lib.hid r2
              replace r3 := Lib.hid r3
              replace r4 := Lib.hid r4
              replace hvar := Lib.hid hvar
              have t0 := Lib.hid trivial
              have t1 := Lib.hid trivial
              generalize hyx : x.lit = y at *
              go_wp2_with (first
                | (go_at_call 25; refine (var_any y).mono ?_; rintro e W4 ⟨rfl, rfl⟩; rw [hvar.out])
                | (go_at_call 24; refine (run_place hS v (x := 0) (b := false) (by omega) g1.out r2.out).mono ?_; rintro e W4 ⟨rfl, hS4⟩; clear hS; have hS := hS4; clear hS4)
                | (go_at_call 16; refine (run_level hS v (x := 0) (b := false) (by omega) g2.out r2.out).mono ?_; rintro e W4 ⟨rfl, hS4⟩; clear hS; have hS := hS4; clear hS4; have q2 := hS.num (r := ⟨3, .slice (some ad2) D.its.length c2, lvls D⟩) (by simp) rfl (lvls_len D) hx2.out)
                | (go_at_call 17; clear t0; refine (run_value hS y (x := 0) r3.out).mono ?_; rintro e W4 ⟨rfl, hS4⟩; clear hS; have hS := hS4; clear hS4)
                | (go_at_call 17; clear t1; refine (run_value hS (-y) (x := 0) r4.out).mono ?_; rintro e W4 ⟨rfl, hS4⟩; clear hS; have hS := hS4; clear hS4))
              go_roundw
              case rel => exact ⟨j + 1, by omega, by go_num, hS⟩
              case measure => simp [intOf]; omega
          · obtain rfl : j = D.its.length := by omega
            have hcap := own_cap (hS.row (r := ⟨27, .slice A1 D.its.length c1, lits D⟩) (by simp))
            have hlm2 : (m : Int) ≤ (D.its.length : Int) := by omega
            have hlm3 : (D.its.length : Int) ≤ (c1 : Int) := by omega
            go_wp2_with fail
            · obtain rfl : m = c1 := by omega
              have hsuf : ∀ (D' : Trl) (W : World), Run w [⟨27, .slice A1 D.its.length m, lits D⟩, ⟨3, .slice A2 D.its.length c2, lvls D⟩] d D' W → Reads W W.heap.size 1 A1 (D.its.length - m) (litV ((lits D).drop m)) := fun D' W h => (h.suffix_ (r := ⟨27, .slice A1 D.its.length m, lits D⟩) (by simp) hlen2.out hml).1 rfl
              obtain ⟨r, hr⟩ : ∃ r, r = D.its.length - m := ⟨_, rfl⟩
              rw [← hr] at hsuf ⊢
              have hr8 : r ≤ 8 := by omega
              have hend : ((asgN D2 ((lits D).drop m)).its.length : Int) = (D.its.length : Int) := by
                rw [(asgN_is _ _).2.2, List.length_append, List.length_map, List.length_drop, hlen2.out, hml2]
                omega
              have htk : ((lits D).drop m).take r = (lits D).drop m := List.take_of_length_le (by rw [List.length_drop, hlen2.out]; omega)
              clear hr
              replace hend := Lib.hid hend
              replace htk := Lib.hid htk
              replace hsuf := Lib.hid hsuf
              go_loopw [153] (fun i wr => ∃ j : Nat, j ≤ r ∧ i = .int .i64 j ∧ Run w [⟨27, .slice A1 D.its.length m, lits D⟩, ⟨3, .slice A2 D.its.length c2, lvls D⟩] d (asgN D2 (((lits D).drop m).take j)) wr) (fun i _ => r - (intOf i).toNat)
              case atStart => exact ⟨0, by omega, rfl, hS⟩
              case round =>
                clear hS
                obtain ⟨j, hj, rfl, hS⟩ := hrel
                have hjs : (j : Int) ≤ 8 := by omega
                have hj0 : 0 ≤ (j : Int) := by omega
                by_cases hlt : j < r
                · obtain ⟨ad, x, hA, _, hx, q0⟩ := reads_num (hsuf.out _ _ hS) hlt
                  subst hA
                  have hf := asgN_free hok.out h8.out (hmn.out.trans h8.out) hmi.out hx
                  have hb8 : -8 ≤ x ∧ x ≤ 8 := by
                    rw [List.getElem?_drop, lits, List.getElem?_map] at hx
                    cases hy : D.its[m + j]? with
                    | none => rw [hy] at hx; cases hx
                    | some y =>
                      rw [hy] at hx
                      simp at hx
                      subst hx
                      have h1 := hok.out.lits y (List.mem_of_getElem? hy)
                      have h2 := h8.out
                      omega
                  obtain ⟨b1, b2⟩ := hb8
                  have t5 : (j : Int) < (r : Int) := by omega
                  clear hx
                  replace hf := Lib.hid hf
                  go_wp2_with (go_at_call 13; refine (run_assign (D' := asgN D2 (((lits D).drop m).take (j + 1))) hS (-x) 1 (e := 0) hf.out.1 hf.out.2).mono ?_; rintro e W7 ⟨rfl, hS7⟩; clear hS; have hS := hS7; clear hS7)
                  go_roundw
                  case rel => exact ⟨j + 1, by omega, by go_num, hS⟩
                  case measure => simp [intOf]; omega
                · obtain rfl : j = r := by omega
                  rw [htk.out] at hS
                  go_wp2_with (first
                    | (go_at_call 23; refine (run_len hS hend.out).mono ?_; rintro e W6 ⟨rfl, rfl⟩)
                    | (go_at_call 18; refine (awake_ok _).mono ?_; rintro e W4 ⟨rfl, hB4⟩))
                  go_ret
                  exact ⟨rfl, hS.bel.trans (hB4.mono hS.bel.size)⟩
            · have hsuf : ∀ (D' : Trl) (W : World), Run w [⟨27, .slice A1 D.its.length c1, lits D⟩, ⟨3, .slice A2 D.its.length c2, lvls D⟩] d D' W → Reads W W.heap.size 1 (Option.map (fun x => x.add m) A1) (D.its.length - m) (litV ((lits D).drop m)) := fun D' W h => (h.suffix_ (r := ⟨27, .slice A1 D.its.length c1, lits D⟩) (by simp) hlen2.out hml).2 (by assumption)
              obtain ⟨A', hA'⟩ : ∃ A', A' = (Option.map (fun x => x.add m) A1) := ⟨_, rfl⟩
              rw [← hA'] at hsuf
              try rw [← hA']
              clear hA'
              obtain ⟨r, hr⟩ : ∃ r, r = D.its.length - m := ⟨_, rfl⟩
              rw [← hr] at hsuf ⊢
              have hr8 : r ≤ 8 := by omega
              have hend : ((asgN D2 ((lits D).drop m)).its.length : Int) = (D.its.length : Int) := by
                rw [(asgN_is _ _).2.2, List.length_append, List.length_map, List.length_drop, hlen2.out, hml2]
                omega
              have htk : ((lits D).drop m).take r = (lits D).drop m := List.take_of_length_le (by rw [List.length_drop, hlen2.out]; omega)
              clear hr
              replace hend := Lib.hid hend
              replace htk := Lib.hid htk
              replace hsuf := Lib.hid hsuf
              go_loopw [153] (fun i wr => ∃ j : Nat, j ≤ r ∧ i = .int .i64 j ∧ Run w [⟨27, .slice A1 D.its.length c1, lits D⟩, ⟨3, .slice A2 D.its.length c2, lvls D⟩] d (asgN D2 (((lits D).drop m).take j)) wr) (fun i _ => r - (intOf i).toNat)
              case atStart => exact ⟨0, by omega, rfl, hS⟩
              case round =>
                clear hS
                obtain ⟨j, hj, rfl, hS⟩ := hrel
                have hjs : (j : Int) ≤ 8 := by omega
                have hj0 : 0 ≤ (j : Int) := by omega
                by_cases hlt : j < r
                · obtain ⟨ad, x, hA, _, hx, q0⟩ := reads_num (hsuf.out _ _ hS) hlt
                  subst hA
                  have hf := asgN_free hok.out h8.out (hmn.out.trans h8.out) hmi.out hx
                  have hb8 : -8 ≤ x ∧ x ≤ 8 := by
                    rw [List.getElem?_drop, lits, List.getElem?_map] at hx
                    cases hy : D.its[m + j]? with
                    | none => rw [hy] at hx; cases hx
                    | some y =>
                      rw [hy] at hx
                      simp at hx
                      subst hx
                      have h1 := hok.out.lits y (List.mem_of_getElem? hy)
                      have h2 := h8.out
                      omega
                  obtain ⟨b1, b2⟩ := hb8
                  have t5 : (j : Int) < (r : Int) := by omega
                  clear hx
                  replace hf := Lib.hid hf
                  go_wp2_with (go_at_call 13; refine (run_assign (D' := asgN D2 (((lits D).drop m).take (j + 1))) hS (-x) 1 (e := 0) hf.out.1 hf.out.2).mono ?_; rintro e W7 ⟨rfl, hS7⟩; clear hS; have hS := hS7; clear hS7)
                  go_roundw
                  case rel => exact ⟨j + 1, by omega, by go_num, hS⟩
                  case measure => simp [intOf]; omega
                · obtain rfl : j = r := by omega
                  rw [htk.out] at hS
                  go_wp2_with (first
                    | (go_at_call 23; refine (run_len hS hend.out).mono ?_; rintro e W6 ⟨rfl, rfl⟩)
                    | (go_at_call 18; refine (awake_ok _).mono ?_; rintro e W4 ⟨rfl, hB4⟩))
                  go_ret
                  exact ⟨rfl, hS.bel.trans (hB4.mono hS.bel.size)⟩
end Go.Proofs.Ytkedepkhcbhcdaa
