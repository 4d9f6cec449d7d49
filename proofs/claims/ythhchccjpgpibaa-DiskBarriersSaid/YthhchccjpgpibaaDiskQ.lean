/- Disks: law 3 (the cache), walked. -/
import Derived.Test.YthhchccjpgpibaaDiskP
namespace Go.Proofs.Ythhchccjpgpibaa
open Go Go.RowKit Go.Shelf
set_option linter.unusedVariables false
set_option linter.unusedSimpArgs false
set_option maxHeartbeats 4000000
/-- What a run of the first acts leaves. -/
def runK (f0 f1 f2 : Int) (acts : List ActV) (k : Nat) : Dst := runD (mkD 4 3 (first3 f0 f1 f2)) (acts.take k)
theorem runK_few (f0 f1 f2 : Int) (acts : List ActV) (k : Nat) (hk : k ≤ 60) : Few (runK f0 f1 f2 acts k) k := by
  have hl : (acts.take k).length ≤ k := by rw [List.length_take]; omega
  have hf := (few_zero (first3 f0 f1 f2) rfl).run (acts.take k) (by omega)
  exact ⟨hf.wd, hf.ws, by have := hf.es; unfold runK; omega, hf.p0, by have := hf.ep; unfold runK; omega⟩
theorem runK_tidy (f0 f1 f2 : Int) (acts : List ActV) (k : Nat) (hk : k ≤ 60) : Tidy (runK f0 f1 f2 acts k) :=
  (tidy_zero _).run (few_zero (first3 f0 f1 f2) rfl) (acts.take k) (by rw [List.length_take]; omega)
theorem runK_step {f0 f1 f2 : Int} {acts : List ActV} {k : Nat} {x : ActV} (hx : acts[k]? = some x) : runK f0 f1 f2 acts (k + 1) = stepD (runK f0 f1 f2 acts k) x := by
  unfold runK; rw [take_snoc hx, runD_snoc]
set_option maxRecDepth 100000 in
theorem law_caches (f0 f1 f2 : Int) (a0 : 0 ≤ f0 ∧ f0 ≤ 255) (a1 : 0 ≤ f1 ∧ f1 ≤ 255) (a2 : 0 ≤ f2 ∧ f2 ≤ 255) (A : Option Addr) (n c : Nat) (acts : List ActV) (w : World) (hrd : Reads w w.heap.size 3 A n (encAs acts)) (hn : n ≤ c) (hc : c ≤ 9223372036854775807) (hok : ∀ a ∈ acts, ActV.Ok a) :
    Calls Try.prog 3 #[.agg #[.int .u8 f0, .int .u8 f1, .int .u8 f2], .slice A n c] w fun e w' => e = .returned (.bool true) ∧ Below w.heap.size w w' := by
  have hB0 := (Below.refl _ w).alloc (Nat.le_refl _) (.cells #[.int .u8 f0, .int .u8 f1, .int .u8 f2] 22)
  have hbox := Blk.new w 22 #[.int .u8 f0, .int .u8 f1, .int .u8 f2]
  have hbl : w.heap.size < (w.alloc (.cells #[.int .u8 f0, .int .u8 f1, .int .u8 f2] 22)).heap.size := by simp
  go_enter Try.func3, Try.ntmps3
  go_wp2_with (first
    | (go_at_call 10; refine (awake_ok _).mono ?_; rintro e w1 ⟨rfl, hB1⟩; replace hbox := hbox.below hB1 hbl; replace hB0 := below_and hB0 hB1; have q0 := hbox.cell 0; have q1 := hbox.cell 1; have q2 := hbox.cell 2; simp only [List.getElem?_toArray, List.getElem?_cons_zero, List.getElem?_cons_succ] at q0 q1 q2; clear hB1)
    | (go_at_call 11; refine (run_ok f0 f1 f2 a0 a1 a2 A n c _ acts _ (hrd.below hB0) hB0.size hn hc hok).mono ?_; rintro e w2 ⟨d, L, cap, rfl, hR⟩; obtain ⟨fp, hE⟩ := hR.end_; have hbs := hB0.size; replace hB0 := below_and hB0 hE.below; obtain ⟨hD, hr, _, hf, hs⟩ := hE; clear hR hbox q0 q1 q2; generalize hl0 : lastW (first3 f0 f1 f2) (List.take 60 acts) = l at *; generalize w1.heap.size = bs at *)
    )
  all_goals
    (try simp only [show max (60 : Int) 0 = 60 from rfl])
    have hlen : acts.length = n := by have := hrd.1; rw [encAs_len] at this; omega
    go_loopw [7, 8, 33] (fun u v i wr => ∃ k : Nat, k ≤ n ∧ k ≤ 60 ∧ u = .int .i64 ((runK f0 f1 f2 acts k).es.length : Int) ∧ v = .int .i64 (runK f0 f1 f2 acts k).ep ∧ i = .int .i64 k ∧ Below w2.heap.size w2 wr) (fun _ _ i _ => 60 - (intOf i).toNat)
    case atStart => exact ⟨0, by omega, by omega, rfl, rfl, rfl, Below.refl _ _⟩
    case round =>
      obtain ⟨k, hk1, hk2, rfl, rfl, rfl, hB1⟩ := hrel
      by_cases hlt : k < n ∧ k < 60
      · have hB2 := below_and hB0 hB1
        obtain ⟨ad, ⟨x0, x1, x2⟩, rfl, hab, hx, q0, q1, q2⟩ := reads_act (hrd.below hB2) hlt.1
        have hxo := hok _ (List.mem_of_getElem? hx)
        dsimp only [ActV.Ok] at q0 q1 q2 hxo
        have hfew := runK_few f0 f1 f2 acts k (by omega)
        have hD1 := runK_step (f0 := f0) (f1 := f1) (f2 := f2) hx
        have hbl : ad.block < wr.heap.size := by have := hB2.size; omega
        have hab2 : (ad.add (k * 3)).block < wr.heap.size := by rw [block_of_add]; exact hbl
        have hfe := hfew.es
        have hfp := hfew.ep
        have hf0 := hfew.p0
        generalize runK f0 f1 f2 acts k = Dk at *
        have t1 : (k : Int) < (n : Int) := by omega
        have t2 : (k : Int) < 60 := by omega
        have t3 : 0 ≤ (k : Int) := by omega
        have hb3 := i64_and3 x1
        have n8 : 0 ≤ x0 % 8 ∧ x0 % 8 < 8 := by omega
        have hB3 := hB1.alloc hB1.size (.cells #[.int .u8 x0, .int .i64 x1, .int .u32 x2] 31)
        clear hD hr hB0 hB1 hB2
        by_cases c4 : x0 % 8 = 4
        · obtain ⟨z1, z2⟩ := step_bar hfew (by omega) (x0, x1, x2) c4
          rw [← hD1] at z1 z2
          have e4 : (x0 % 8 == 4) = true := by simpa using c4
          go_wp2
          go_roundw
          case rel => exact ⟨k + 1, by omega, by omega, by rw [z1], by rw [z2], by go_num, hB3⟩
          case measure => simp [intOf]; omega
        have e4 : (x0 % 8 == 4) = false := by simpa using c4
        by_cases c5 : x0 % 8 = 5
        · obtain ⟨z1, z2⟩ := step_flu (D := Dk) (x0, x1, x2) c5
          rw [← hD1] at z1 z2
          have e5 : (x0 % 8 == 5) = true := by simpa using c5
          go_wp2
          go_roundw
          case rel => exact ⟨k + 1, by omega, by omega, by rw [z1]; rfl, by rw [z2], by go_num, hB3⟩
          case measure => simp [intOf]; omega
        have e5 : (x0 % 8 == 5) = false := by simpa using c5
        by_cases c3 : x0 % 8 < 4
        · have e3 : decide (x0 % 8 < 4) = true := by simpa using c3
          by_cases cb : x1 % 4 < 3
          · obtain ⟨z1, z2⟩ := step_wrt hfew (by omega) (x0, x1, x2) c3 cb
            rw [← hD1] at z1 z2
            have eb : decide (x1 % 4 < 3) = true := by simpa using cb
            go_wp2
            go_roundw
            case rel => exact ⟨k + 1, by omega, by omega, by rw [z1]; push_cast; rfl, by rw [z2], by go_num, hB3⟩
            case measure => simp [intOf]; omega
          · obtain ⟨z1, z2⟩ := step_rest hfew (x0, x1, x2) hxo.1 c4 c5 (by simp only; omega)
            rw [← hD1] at z1 z2
            have eb : decide (x1 % 4 < 3) = false := by simpa using cb
            go_wp2
            go_roundw
            case rel => exact ⟨k + 1, by omega, by omega, by rw [z1], by rw [z2], by go_num, hB3⟩
            case measure => simp [intOf]; omega
        · obtain ⟨z1, z2⟩ := step_rest hfew (x0, x1, x2) hxo.1 c4 c5 (by simp only; omega)
          rw [← hD1] at z1 z2
          have e3 : decide (x0 % 8 < 4) = false := by simpa using c3
          go_wp2
          go_roundw
          case rel => exact ⟨k + 1, by omega, by omega, by rw [z1], by rw [z2], by go_num, hB3⟩
          case measure => simp [intOf]; omega
      · have hrk : runK f0 f1 f2 acts k = runD (mkD 4 3 (first3 f0 f1 f2)) (acts.take 60) := by
          unfold runK
          congr 1
          by_cases h60 : n ≤ 60
          · rw [List.take_of_length_le (by omega), List.take_of_length_le (by omega)]
          · rw [show k = 60 by omega]
        have hT := runK_tidy f0 f1 f2 acts k (by omega)
        rw [hrk] at hT
        rw [hrk]
        replace hD := hD.new hB1
        replace hr := row_new' hr hB1
        replace hB0 := below_and hB0 hB1
        clear hrk hB1
        generalize runD (mkD 4 3 (first3 f0 f1 f2)) (acts.take 60) = DD at *
        have hdone : Hid ((k = n ∧ n ≤ 60) ∨ k = 60) := Lib.hid (by omega)
        have t1 : ¬ ((k : Int) < (n : Int) ∧ (k : Int) < 60) := by omega
        have hws3 := hf.ws
        clear hrd hok
        have hB0w := hB0.size
        have hLlt : ∀ kk, (Value.slice L 3 cap).ownBlock = some kk → kk < wr.heap.size := fun kk hkk => (hr.1.lt kk hkk).2
        go_wp2_with (first
          | (go_at_call 12; refine (kept_n hD hf.ws rfl).mono ?_; rintro e w3 ⟨S, cs, rfl, hS, hB2⟩; replace hB0 := below_and hB0 hB2; replace hr := row_new' hr hB2; have hD' := hD.new hB2; clear hB2 hD)
          | (go_at_call 13; refine (cache_n hD' rfl rfl).mono ?_; rintro e w4 ⟨C, cc, rfl, hC, hB2⟩; replace hB0 := below_and hB0 hB2; replace hr := row_new' hr hB2; replace hS := row_new hS hB2; have hD2 := hD'.new hB2; clear hB2 hD')
          | (go_at_call 14; refine (epoch_n hD2 rfl).mono ?_; rintro e w' ⟨rfl, rfl⟩))
        obtain ⟨g2, cap2, hv, hg2, _⟩ := hS.form (by omega)
        obtain ⟨rfl, rfl⟩ : S = some ⟨g2, 0, none⟩ ∧ cs = cap2 := by injection hv with a b c; exact ⟨a, c⟩
        clear hv
        have hwr : w.heap.size ≤ wr.heap.size := by exact hB0w
        generalize wr.heap.size = bS at *
        generalize w3.heap.size = bC at *
        go_loopw [13, 81] (fun e i wz => ∃ (j : Nat) (ev : Int), j ≤ DD.es.length ∧ e = .int .i64 ev ∧ i = .int .i64 j ∧ (∀ x, DD.es[j]? = some x → ev ≤ x.2.2) ∧ wz.ownsRow bS 36 1 (.slice (some ⟨g2, 0, none⟩) 3 cs) 3 ((flushW DD.ws (DD.es.take j)).map (Value.int .u32)) ∧
          wz.ownsRow bC 38 3 (.slice C DD.es.length cc) DD.es.length (encs DD.es) ∧ (wz.ownsRow bs 36 1 (.slice L 3 cap) 3 (l.map (Value.int .u32)) ∧ Apart (.slice L 3 cap) fp) ∧ Below w.heap.size w wz) (fun _ i _ => DD.es.length - (intOf i).toNat)
        case atStart => exact ⟨0, 0, by omega, rfl, rfl, fun x hx => (hT.each x (List.mem_of_getElem? hx)).2.2.1, by simpa [flushW] using hS, hC, hr, hB0⟩
        case round =>
          clear hS hC hr hB0
          obtain ⟨j, ev, hj, rfl, rfl, hev, hS, hC, hr, hB0⟩ := hrel
          by_cases hlt2 : j < DD.es.length
          · obtain ⟨⟨b, x2, x3⟩, hx⟩ : ∃ y, DD.es[j]? = some y := ⟨_, List.getElem?_eq_getElem hlt2⟩
            obtain ⟨gc, rfl, _, q0, q1, q2⟩ := own_ent hC hx
            obtain ⟨hb1, hb2, hb3, hb4⟩ := hT.each _ (List.mem_of_getElem? hx)
            have hbe := hev _ hx
            have hnx : ∀ y, DD.es[j + 1]? = some y → x3 ≤ y.2.2 := by
              intro y hy
              obtain ⟨hl1, e1⟩ := List.getElem?_eq_some_iff.1 hx
              obtain ⟨hl2, e2⟩ := List.getElem?_eq_some_iff.1 hy
              have := List.pairwise_iff_getElem.1 hT.sorted j (j + 1) hl1 hl2 (by omega)
              rw [e1, e2] at this
              exact this
            dsimp only at q0 q1 q2 hb1 hb2 hb3 hb4 hbe
            obtain ⟨bn, rfl⟩ := Int.eq_ofNat_of_zero_le hb1.1
            have hbn : bn < 3 := by omega
            have d1 : decide ((bn : Int) < 0) = false := by simp
            have d2 : decide ((2 : Int) < (bn : Int)) = false := by simp; omega
            have d3 : decide (x3 < ev) = false := by simp; omega
            have d4 : decide (DD.ep < x3) = false := by simp; omega
            have d5 : decide ((15 : Int) < x2) = false := by simp; omega
            have j1 : (j : Int) < (DD.es.length : Int) := by omega
            have j60 : (j : Int) < 60 := by have := hf.es; omega
            have j0 : 0 ≤ (j : Int) := by omega
            have hsl : (flushW DD.ws (DD.es.take j)).length = 3 := by rw [flushW_len]; exact hws3
            have hcell := hS.cellAt bn (by omega)
            rw [List.getElem?_map, List.getElem?_eq_getElem (by omega), Option.map_some] at hcell
            have hfz := hS.frozenAt bn
            have hst := (hS.stored bn (.int .u32 x2)).1
            have hO := (Only.refl [g2] wr).setCell (p := ⟨g2, bn, none⟩) (.inl (by simp)) (.int .u32 x2)
            have hC2 := own_only hC hO (fun kk hk hm => by rw [List.mem_singleton] at hm; subst hm; exact own_own_ne hC hS (by decide) hk rfl)
            have hr2 := And.intro (own_only hr.1 hO (fun kk hk hm => by rw [List.mem_singleton] at hm; subst hm; have := hLlt kk hk; omega)) hr.2
            have hB2 := hB0.setCell (p := ⟨g2, bn, none⟩) (by show w.heap.size ≤ g2; omega) (.int .u32 x2)
            have hfl : (flushW DD.ws (DD.es.take j)).set bn x2 = flushW DD.ws (DD.es.take (j + 1)) := by rw [take_snoc hx, flushW_snoc]; rfl
            rw [← List.map_set, hfl] at hst
            have hg2l : g2 < wr.heap.size := (hS.lt g2 rfl).2
            have hA := (Below.refl (wr.setCell ⟨g2, bn, none⟩ (.int .u32 x2)).heap.size (wr.setCell ⟨g2, bn, none⟩ (.int .u32 x2))).alloc (Nat.le_refl _) (.cells #[.int .i64 bn, .int .u32 x2, .int .i64 x3] 38)
            replace hst := row_new hst hA
            replace hC2 := row_new hC2 hA
            replace hr2 := row_new' hr2 hA
            replace hB2 := below_and hB2 hA
            clear hS hC hr hB0 hA hO hfl hev
            generalize (flushW DD.ws (DD.es.take j))[bn]'(by omega) = old at hcell
            go_wp2
            go_roundw
            case rel => exact ⟨j + 1, x3, Nat.succ_le_of_lt hlt2, rfl, by go_num, hnx, hst, hC2, hr2, hB2⟩
            case measure => simp [intOf]; omega
          · obtain rfl : j = DD.es.length := by omega
            rw [List.take_length, hs] at hS
            go_wp2_with (go_at_call 15; refine (words_eq l hS hr.1 (by omega)).mono ?_; rintro e w5 ⟨rfl, hB2⟩; replace hB0 := below_and hB0 hB2)
            go_ret
            exact ⟨rfl, hB0⟩
end Go.Proofs.Ythhchccjpgpibaa
