/- Arenas: law 5 (stays). -/
import Derived.Test.YtlcfgpkokaiogaaArR
namespace Go.Proofs.Ytlcfgpkokaiogaa
open Go Go.RowKit Go.Shelf
set_option linter.unusedVariables false
set_option linter.unusedSimpArgs false
set_option maxHeartbeats 4000000
/-- What is there when some are gone. -/
def alG (G : Nat → Bool) (ll : List (List Int)) : List (Nat × List Int) := (putA ll).filter fun c => !G (c.1 / 2)
def updG (G : Nat → Bool) (k : Nat) : Nat → Bool := fun j => G j || decide (j = k)
theorem alG_none (ll : List (List Int)) : alG (fun _ => false) ll = putA ll := by simp [alG]
theorem mem_alG {G : Nat → Bool} {ll : List (List Int)} {c : Nat × List Int} : c ∈ alG G ll ↔ ∃ (k : Nat) (l : List Int), ll[k]? = some l ∧ G k = false ∧ c = (2 * k + 1, mkC l) := by
  unfold alG
  rw [List.mem_filter, putA_mem]
  constructor
  · rintro ⟨⟨k, l, h1, rfl⟩, h2⟩
    rw [show (2 * k + 1) / 2 = k by omega] at h2
    exact ⟨k, l, h1, by simpa using h2, rfl⟩
  · rintro ⟨k, l, h1, h2, rfl⟩
    refine ⟨⟨k, l, h1, rfl⟩, ?_⟩
    rw [show (2 * k + 1) / 2 = k by omega, h2]
    rfl
theorem alG_without (G : Nat → Bool) (ll : List (List Int)) (k : Nat) : without (alG G ll) (2 * (k : Int) + 1) = alG (updG G k) ll := by
  unfold without alG
  rw [List.filter_filter]
  refine List.filter_congr fun c hc => ?_
  obtain ⟨j, l, _, rfl⟩ := putA_mem.1 hc
  rw [show (2 * j + 1) / 2 = j by omega]
  unfold updG
  by_cases h : j = k
  · subst h
    simp
  · have h1 : ((2 * j + 1 : Nat) : Int) ≠ 2 * (k : Int) + 1 := by omega
    simp [h]
    intro _
    omega
theorem alG_snoc {G : Nat → Bool} {ll : List (List Int)} {k : Nat} {l : List Int} (h : ll[k]? = some l) : alG G (ll.take (k + 1)) = alG G (ll.take k) ++ (if G k then [] else [(2 * k + 1, mkC l)]) := by
  unfold alG
  rw [putA_snoc h, List.filter_append]
  congr 1
  rw [List.filter_cons, show (2 * k + 1) / 2 = k by omega]
  cases G k <;> rfl
theorem alG_used {G : Nat → Bool} {ll : List (List Int)} {k : Nat} {l : List Int} (h : ll[k]? = some l) : usedL (alG G (ll.take (k + 1))) = usedL (alG G (ll.take k)) + (if G k then 0 else (mkC l).length) := by
  rw [alG_snoc h, usedL_append]
  cases G k <;> simp [usedL]
theorem alG_bd (G : Nat → Bool) (ll : List (List Int)) : ∀ k, k ≤ ll.length → usedL (alG G (ll.take k)) ≤ 20 * k
  | 0, _ => by simp [alG, putA, usedL]
  | k + 1, hk => by
    have h1 := alG_bd G ll k (by omega)
    rw [alG_used (List.getElem?_eq_getElem (show k < ll.length by omega))]
    have := mkC_len (ll[k]'(by omega))
    split <;> omega
theorem alG_look {G : Nat → Bool} {ll : List (List Int)} {last k : Nat} {l : List Int} (h : AOk (alG G ll) last) (hk : ll[k]? = some l) : look (alG G ll) (2 * (k : Int) + 1) = if G k then none else some (mkC l) := by
  by_cases hg : G k = true
  · rw [if_pos hg, look_none]
    intro c hc
    obtain ⟨j, l', _, hj, rfl⟩ := mem_alG.1 hc
    have hne : j ≠ k := fun e => by subst e; rw [hg] at hj; cases hj
    show ((2 * j + 1 : Nat) : Int) ≠ _
    omega
  · rw [if_neg hg]
    exact (look_some h.so).2 ⟨2 * k + 1, by omega, mem_alG.2 ⟨k, l, hk, by simpa using hg, rfl⟩⟩
/-- Who is there, as numbers. -/
def thereL (G : Nat → Bool) (N : Nat) : List Value := (List.range N).map fun k => .int .i64 (if G k then 0 else 1)
theorem thereL_len (G : Nat → Bool) (N : Nat) : (thereL G N).length = N := by simp [thereL]
theorem thereL_at {G : Nat → Bool} {N k : Nat} (hk : k < N) : (thereL G N)[k]? = some (.int .i64 (if G k then 0 else 1)) := by simp [thereL, hk]
theorem thereL_congr {G G' : Nat → Bool} {N : Nat} (h : ∀ k, k < N → G k = G' k) : thereL G N = thereL G' N := by
  unfold thereL
  exact List.map_congr_left fun k hk => by rw [h k (List.mem_range.1 hk)]
theorem thereL_set {G G' : Nat → Bool} {N k : Nat} {x : Int} (hx : x = if G' k then 0 else 1) (h : ∀ j, j < N → j ≠ k → G j = G' j) : (thereL G N).set k (.int .i64 x) = thereL G' N := by
  apply List.ext_getElem?
  intro j
  by_cases hj : j < N
  · rw [thereL_at hj, List.getElem?_set]
    by_cases e : k = j
    · subst e
      rw [if_pos rfl, if_pos (by rw [thereL_len]; exact hj), hx]
    · rw [if_neg e, thereL_at hj, h j hj (fun e' => e e'.symm)]
  · rw [List.getElem?_eq_none (by rw [List.length_set, thereL_len]; omega), List.getElem?_eq_none (by rw [thereL_len]; omega)]
theorem thereL_zero (N : Nat) : madeCells #[Value.int .i64 0] N = (thereL (fun k => decide (0 ≤ k)) N).toArray := by
  apply Array.ext'
  rw [toList_madeCells_one]
  apply List.ext_getElem?
  intro j
  by_cases hj : j < N
  · rw [thereL_at hj]
    simp [hj]
  · rw [List.getElem?_eq_none (by simp; omega), List.getElem?_eq_none (by rw [thereL_len]; omega)]
def thT (T : Nat) (G : Nat → Bool) (N : Nat) : Thing := blkT T 3 (thereL G N).toArray
section
variable {W0 W : World} {fp0 : List Nat} {ts : List Thing} {d last : Nat} {al : List (Nat × List Int)} {T N : Nat} {G G' : Nat → Bool}
theorem Run.thCell (h : Run W0 fp0 ts d al last W) (ht : thT T G N ∈ ts) {k : Nat} (hk : k < N) : W.cell? ⟨T, k, none⟩ = some (.int .i64 (if G k then 0 else 1)) ∧ W.frozen? ⟨T, k, none⟩ = false := by
  have hb : Blk W T 3 (thereL G N).toArray := h.thing ht
  refine ⟨?_, hb.frozen k⟩
  have := hb.cell k
  rw [this]
  simpa using thereL_at hk
theorem Run.thSet (h : Run W0 fp0 (thT T G N :: ts) d al last W) (k : Nat) {x : Int} (hx : x = if G' k then 0 else 1) (hg : ∀ j, j < N → j ≠ k → G j = G' j) : Run W0 fp0 (thT T G' N :: ts) d al last (W.setCell ⟨T, k, none⟩ (.int .i64 x)) := by
  have hb : Blk W T 3 (thereL G N).toArray := h.thing (t := thT T G N) (by simp)
  refine h.change (t' := thT T G' N) ((Only.refl [T] W).setCell (p := ⟨T, k, none⟩) (.inl (by simp)) _) ?_ (by simp [thT, blkT])
  have := hb.set_ k (.int .i64 x)
  rw [List.setIfInBounds_toArray, thereL_set hx hg] at this
  exact this
end
set_option maxRecDepth 100000 in
theorem law_stays {A : Option Addr} {n c B : Nat} {ll : List (List Int)} {vs : List Value} {A2 : Option Addr} {n2 c2 B2 : Nat} {gs : List Int} (w : World) (hrd : Reads w B 1 A n vs) (hN : Nest w B vs ll) (hB : B ≤ w.heap.size) (hm : n ≤ 9223372036854775807) (hc : n ≤ c)
    (hrd2 : Reads w B2 1 A2 n2 (gs.map (Value.int .u8))) (hB2 : B2 ≤ w.heap.size) (hm2 : n2 ≤ 9223372036854775807) (hc2 : n2 ≤ c2) (hg2 : ∀ x ∈ gs, 0 ≤ x ∧ x ≤ 255) :
    Calls Try.prog 5 #[.slice A n c, .slice A2 n2 c2] w fun e w' => e = .returned (.bool true) ∧ Below w.heap.size w w' := by
  have hput := put_ok hrd hN hB hm hc
  unfold PutP at hput
  have hll : ll.length = n := by have := hrd.1; have := hN.len; omega
  obtain ⟨L, hL⟩ : ∃ L, L = ll.take 60 := ⟨_, rfl⟩
  have hLl : L.length = min 60 n := by rw [hL, List.length_take, hll]
  have hLa : ∀ (k : Nat) (l : List Int), L[k]? = some l → ll[k]? = some l := fun k l h => by
    rw [hL, List.getElem?_take] at h
    split at h
    · exact h
    · cases h
  rw [← hL] at hput
  obtain ⟨N, hNn⟩ : ∃ N, N = L.length := ⟨_, rfl⟩
  rw [← hNn] at hput hLl
  rw [← alG_none L] at hput
  have hNn' := Lib.hid hNn
  replace hput := Lib.hid hput
  replace hLa := Lib.hid hLa
  replace hrd := Lib.hid hrd
  replace hN := Lib.hid hN
  replace hrd2 := Lib.hid hrd2
  replace hg2 := Lib.hid hg2
  generalize putL N = la at hput
  clear hL hNn hll
  have hN60 : N ≤ 60 := by omega
  have hmk := run_make_row' (P := Try.prog) 25 3 (.int .i64 0) 8 Try.underlying25 info3 rfl .i64 .i64 N (by omega) (by omega)
  go_enter Try.func5, Try.ntmps5
  go_upto_region 4 with (go_at_call 25; refine hput.out.mono ?_; rintro e W1 ⟨d, rfl, hR⟩)
  go_cut [7] (fun v wx => v = .int .i64 (N : Int) ∧ W1 = wx)
  case first =>
    go_wp2
    all_goals (go_meet; exact ⟨by congr 1; omega, rfl⟩)
  case rest =>
    obtain ⟨rfl, rfl⟩ := hcut
    have hNn2 : N ≤ n := by omega
    clear hLl
    go_upto_region 6 with fail
    have hR2 := hR.fresh (t := thT W1.heap.size (fun k => decide (0 ≤ k)) N) ((Below.refl _ _).alloc (Nat.le_refl _) (.cells (madeCells #[.int .i64 0] N) 3)) (by rw [thereL_zero]; exact Blk.new _ _ _) (by simp [thT, blkT])
    rw [thereL_zero] at hR2 ⊢
    generalize hT : W1.heap.size = T at *
    generalize W1.alloc (.cells (thereL (fun k => decide (0 ≤ k)) N).toArray 3) = W2 at *
    clear hR hT hmk
    go_wp2_with fail
    go_loopw [33] (fun i wr => ∃ k : Nat, k ≤ N ∧ i = .int .i64 k ∧ Run w [] [thT T (fun j => decide (k ≤ j)) N] d (alG (fun _ => false) L) la wr) (fun i _ => N - (intOf i).toNat)
    case atStart => exact ⟨0, by omega, rfl, hR2⟩
    case round =>
      clear hR2
      obtain ⟨k, hk, rfl, hR⟩ := hrel
      by_cases hlt : k < N
      · obtain ⟨q0, z0⟩ := hR.thCell (T := T) (G := fun j => decide (k ≤ j)) (k := k) (by simp) hlt
        have hR2 := hR.thSet (G' := fun j => decide (k + 1 ≤ j)) k (x := 1) (by simp) (fun j _ hj => by simp; omega)
        have t1 : (k : Int) < (N : Int) := by omega
        have t3 : 0 ≤ (k : Int) := by omega
        go_wp2_with fail
        go_roundw
        case rel => exact ⟨k + 1, by omega, by go_num, hR2⟩
        case measure => simp [intOf]; omega
      · obtain rfl : N = k := by omega
        have hR0 : Run w [] [thT T (fun _ => false) N] d (alG (fun _ => false) L) la wr := by
          have h1 : thT T (fun j => decide (N ≤ j)) N = thT T (fun _ => false) N := by
            unfold thT
            rw [thereL_congr (G' := fun _ => false) (fun j hj => by simp; omega)]
          rwa [h1] at hR
        clear hR hput
        go_upto_region 11 with fail
        go_cut [44, 45, 46] (fun s l i wx => ∃ M c3 : Nat, s = .slice A2 M c3 ∧ l = .int .i64 M ∧ i = .int .i64 0 ∧ M ≤ n2 ∧ M ≤ 60 ∧ wr = wx)
        case first =>
          go_wp2
          all_goals (go_meet; exact ⟨_, _, rfl, rfl, rfl, by omega, by omega, rfl⟩)
        case rest =>
          obtain ⟨M, c3, rfl, rfl, rfl, hM1, hM2, rfl⟩ := hcut
          go_wp2_with fail
          go_loopw [46] (fun i wr => ∃ (j : Nat) (G : Nat → Bool), j ≤ M ∧ i = .int .i64 j ∧ Run w [] [thT T G N] d (alG G L) la wr) (fun i _ => M - (intOf i).toNat)
          case atStart => exact ⟨0, _, by omega, rfl, hR0⟩
          case round =>
            clear hR0
            obtain ⟨j, G, hj, rfl, hR⟩ := hrel
            by_cases hlt : j < M
            · obtain ⟨ad, x, rfl, hab, hx, q0⟩ := reads_num (hrd2.out.below (hR.below.mono hB2)) (show j < n2 by omega)
              have hxb := hg2.out x (List.mem_of_getElem? hx)
              obtain ⟨x, rfl⟩ := Int.eq_ofNat_of_zero_le hxb.1
              clear hx
              have t1 : (j : Int) < (M : Int) := by omega
              have t2 : 0 ≤ (j : Int) := by omega
              by_cases h0 : N = 0
              · subst h0
                go_wp2_with (go_at_call 12; refine (awake_ok _).mono ?_; rintro e W4 ⟨rfl, hB4⟩)
                go_ret
                exact ⟨rfl, hR.below.trans (hB4.mono hR.below.size)⟩
              · have hr : x % N < N := Nat.mod_lt _ (by omega)
                have hdiv : ((x : Int)).tmod (N : Int) = ((x % N : Nat) : Int) := by rw [Int.tmod_eq_emod_of_nonneg (by omega)]; rfl
                generalize x % N = r at hr hdiv
                have t6 : decide ((N : Int) = 0) = false := by simp; omega
                have t7 : ((N : Int) == 0) = false := by simp; omega
                have t8 : ¬ (N : Int) = 0 := by omega
                have t9 : (r : Int) ≤ 60 := by omega
                have t10 : (r : Int) < (N : Int) := by omega
                have t11 : 0 ≤ (r : Int) := by omega
                obtain ⟨lr, hlr⟩ : ∃ l, L[r]? = some l := ⟨_, List.getElem?_eq_getElem (by rw [← hNn'.out]; exact hr)⟩
                have hlk := alG_look hR.ok hlr
                have hwo := alG_without G L r
                obtain ⟨G', hG'⟩ : ∃ G', G' = updG G r := ⟨_, rfl⟩
                rw [← hG'] at hwo
                have hst1 : (0 : Int) = if G' r then 0 else 1 := by rw [hG']; simp [updG]
                have hst2 : ∀ i, i < N → i ≠ r → G i = G' i := fun i _ hi => by rw [hG']; simp [updG, hi]
                have hst : ∀ W, Run w [] [thT T G N] d (alG G' L) la W → Run w [] [thT T G' N] d (alG G' L) la (W.setCell ⟨T, r, none⟩ (.int .i64 0)) := fun W hh => hh.thSet r hst1 hst2
                have hcl : ∀ W, Run w [] [thT T G N] d (alG G' L) la W → W.cell? ⟨T, r, none⟩ = some (.int .i64 (if G r then 0 else 1)) ∧ W.frozen? ⟨T, r, none⟩ = false := fun W hh => hh.thCell (G := G) (by simp) hr
                replace hst := Lib.hid hst
                clear hG' hst1 hst2 hlr hr
                obtain ⟨e0, x0, hde, hx0, hh⟩ : ∃ e0 x0 : Int, delErr (alG G L) (2 * (r : Int) + 1) = e0 ∧ (if G r then (0 : Int) else 1) = x0 ∧ (e0 = 30 ∧ x0 = 0 ∨ e0 = 0 ∧ x0 = 1) := by
                  refine ⟨_, _, rfl, rfl, ?_⟩
                  cases hgr : G r with
                  | true => rw [hgr] at hlk; exact .inl ⟨(none_facts hlk).2.2.2.1, rfl⟩
                  | false => rw [hgr] at hlk; exact .inr ⟨(some_facts hlk).2.2.2.1, rfl⟩
                simp only [hx0] at hcl
                replace hcl := Lib.hid hcl
                clear hlk hx0
                rcases hh with ⟨rfl, rfl⟩ | ⟨rfl, rfl⟩
                all_goals
                  go_upto_block 4 with (go_at_call 15; refine (run_del hR _ (by omega) hde hwo).mono ?_; rintro e W4 ⟨rfl, hR4⟩; obtain ⟨q1, z1⟩ := hcl.out W4 hR4; have hR5 := hst.out W4 hR4)
                  generalize W4.setCell ⟨T, r, none⟩ (.int .i64 0) = W5 at *
                  clear hR hR4 q1 z1 hde hwo hcl hst q0 hdiv t1 t2 t6 t7 t8 t9 t10 t11
                  go_wp2_with fail
                  go_loopw [14, 82] (fun u i wr => ∃ k : Nat, k ≤ N ∧ u = .int .i64 (usedL (alG G' (L.take k)) : Int) ∧ i = .int .i64 k ∧ Run w [] [thT T G' N] d (alG G' L) la wr) (fun _ i _ => N - (intOf i).toNat)
                  case atStart => exact ⟨0, by omega, rfl, rfl, hR5⟩
                  case round =>
                    clear hR5
                    obtain ⟨k, hk, rfl, rfl, hR⟩ := hrel
                    have hbd := alG_bd G' L k (by rw [← hNn'.out]; exact hk)
                    by_cases hkN : k < N
                    · obtain ⟨l, hl⟩ : ∃ l, L[k]? = some l := ⟨_, List.getElem?_eq_getElem (by rw [← hNn'.out]; exact hkN)⟩
                      have hlk := alG_look hR.ok hl
                      have hus := alG_used (G := G') hl
                      obtain ⟨u, hu⟩ : ∃ u, u = usedL (alG G' (L.take k)) := ⟨_, rfl⟩
                      rw [← hu] at hus hbd
                      have hgoal := hu.symm
                      simp only [hgoal]
                      clear hu hgoal
                      have hcl := mkC_len l
                      obtain ⟨q0, _⟩ := hR.thCell (T := T) (G := G') (by simp) hkN
                      have t1 : (k : Int) < (N : Int) := by omega
                      have t2 : 0 ≤ (k : Int) := by omega
                      have t3 : (k : Int) < (n : Int) := by omega
                      cases hgk : G' k with
                      | true =>
                        rw [hgk] at hlk hus q0
                        have hno := none_facts hlk
                        replace hno := Lib.hid hno
                        replace hus := Lib.hid hus
                        clear hlk hl
                        go_wp2_with (go_at_call 17; refine (run_get hR _ (by omega) hno.out.1 hno.out.2.1).mono ?_; rintro e W4 ⟨A7, c7, rfl, hR4⟩; clear hR; have hR := hR4.tail; clear hR4)
                        go_roundw
                        case rel => exact ⟨k + 1, by omega, by rw [hus.out]; simp, by go_num, hR⟩
                        case measure => simp [intOf]; omega
                      | false =>
                        rw [hgk] at hlk hus q0
                        have hso := some_facts hlk
                        obtain ⟨A5, n5, c5, hv, hrd5, hn5, hm5, hx5⟩ := hN.out.at_ k l (hLa.out k l hl)
                        obtain ⟨ad, v, rfl, hab, hu, q5⟩ := hrd.out.at_ (show k < n by omega)
                        have := hu.symm.trans hv
                        cases this
                        have hmd : ∀ W, Below w.heap.size w W → Calls Try.prog 27 #[.slice A5 n5 c5] W (MadeP W (mkC l)) := fun W hW => made_ok A5 n5 c5 B l W (hrd5.below (hW.mono hB)) (Nat.le_trans hB hW.size) hm5 hn5 hx5
                        have hqs : ∀ W, Below w.heap.size w W → W.cell? (ad.add k) = some (.slice A5 n5 c5) := fun W hW => (hW.cell (p := ad.add k) (by rw [block_of_add]; omega)).trans q5
                        generalize mkC l = cl at *
                        obtain ⟨m, hml⟩ : ∃ m, m = cl.length := ⟨_, rfl⟩
                        unfold MadeP at hmd
                        rw [← hml] at hmd hus hcl
                        have hgt : Calls Try.prog 17 #[.pointer (some ⟨d, 0, none⟩), .int .i64 (2 * (k : Int) + 1)] wr (GotR w [] [thT T G' N] d (alG G' L) la wr cl 0) := run_get hR _ (by omega) hso.1 hso.2.1
                        unfold GotR at hgt
                        rw [← hml] at hgt
                        replace hgt := Lib.hid hgt
                        replace hmd := Lib.hid hmd
                        replace hqs := Lib.hid hqs
                        replace hus := Lib.hid hus
                        clear hlk hl hso hu hv hx5 hrd5 q5 hml hR
                        go_wp2_with (first
                          | (go_at_call 17; refine hgt.out.mono ?_; rintro e W4 ⟨A7, c7, rfl, hR4⟩; have q4 := hqs.out W4 hR4.below)
                          | (go_at_call 27; refine (hmd.out W4 hR4.below).mono ?_; rintro e W5 ⟨A8, c8, rfl, hown8, hB8⟩; have hR8 := hR4.new hB8; have hr8 := Reads.of_own hown8; have hr7 : Reads W5 W5.heap.size 1 A7 m (lits cl) := Reads.of_own (hR8.thing (t := rowT wr.heap.size 30 1 (.slice A7 m c7) m (lits cl)) (by simp)))
                          | (go_at_call 26; refine (equal_lits A7 A8 m c7 c8 cl _ _ _ hr7 hr8 (by omega)).mono ?_; rintro e W6 ⟨rfl, hB6⟩; have hR6 := (hR8.new hB6).tail))
                        go_roundw
                        case rel => exact ⟨k + 1, by omega, by rw [hus.out]; simp, by go_num, hR6⟩
                        case measure => simp [intOf]; omega
                    · obtain rfl : N = k := by omega
                      rw [List.take_of_length_le (by rw [← hNn'.out]; exact Nat.le_refl _)] at hbd ⊢
                      obtain ⟨u, hu⟩ : ∃ u, u = usedL (alG G' L) := ⟨_, rfl⟩
                      rw [← hu] at hbd ⊢
                      have hu' := Lib.hid hu
                      clear hu
                      go_wp2_with (first
                        | (go_at_call 16; refine (run_used hR (n := (u : Int)) (by rw [hu'.out])).mono ?_; rintro e W4 ⟨rfl, rfl⟩)
                        | (go_at_call 23; refine (run_held hR).mono ?_; rintro e W3 ⟨nh, rfl, rfl, hh1, hh2⟩; rw [← hu'.out] at hh1 hh2))
                      go_roundw
                      case rel => exact ⟨j + 1, G', by omega, by go_num, hR⟩
                      case measure => simp [intOf]; omega
            · obtain rfl : M = j := by omega
              go_wp2_with (go_at_call 12; refine (awake_ok _).mono ?_; rintro e W4 ⟨rfl, hB4⟩)
              go_ret
              exact ⟨rfl, hR.below.trans (hB4.mono hR.below.size)⟩
end Go.Proofs.Ytlcfgpkokaiogaa
