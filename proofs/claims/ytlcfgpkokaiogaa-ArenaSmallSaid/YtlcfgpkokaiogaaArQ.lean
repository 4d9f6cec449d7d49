/- Arenas: law 8 (lits). -/
import Derived.Test.YtlcfgpkokaiogaaArP
namespace Go.Proofs.Ytlcfgpkokaiogaa
open Go Go.RowKit Go.Shelf
set_option linter.unusedVariables false
set_option linter.unusedSimpArgs false
set_option maxHeartbeats 4000000
/-- Numbers of a clause. -/
theorem some_facts {al : List (Nat × List Int)} {id : Int} {l : List Int} (h : look al id = some l) : getL al id = l ∧ getE al id = 0 ∧ hasA al id = true ∧ delErr al id = 0 ∧ (∀ (i : Nat) (x : Int), l[i]? = some x → litV al id i = x ∧ litE al id i = 0) ∧ ∀ i : Int, i < 0 ∨ (l.length : Int) ≤ i → litV al id i = 0 ∧ litE al id i = 2 := by
  have h1 : getL al id = l := by unfold getL; rw [h]; rfl
  have h2 : ¬ look al id = none := by rw [h]; simp
  refine ⟨h1, if_neg h2, ?_, if_neg h2, fun i x hx => ?_, fun i hi => ?_⟩
  · unfold hasA; rw [h]; rfl
  · have hlt := (List.getElem?_eq_some_iff.1 hx).1
    refine ⟨?_, ?_⟩
    · unfold litV
      rw [if_pos (by omega), h1, Int.toNat_natCast, hx]
      rfl
    · unfold litE
      rw [if_neg h2, if_pos (by rw [h1]; omega)]
  · refine ⟨?_, ?_⟩
    · unfold litV
      split
      · rw [h1, List.getElem?_eq_none (by omega)]; rfl
      · rfl
    · unfold litE
      rw [if_neg h2, if_neg (by rw [h1]; omega)]
theorem putA_mem {ll : List (List Int)} {c : Nat × List Int} : c ∈ putA ll ↔ ∃ (k : Nat) (l : List Int), ll[k]? = some l ∧ c = (2 * k + 1, mkC l) := by
  rw [List.mem_iff_getElem?]
  constructor
  · rintro ⟨k, hk⟩
    rw [putA_at, Option.map_eq_some_iff] at hk
    obtain ⟨l, h1, h2⟩ := hk
    exact ⟨k, l, h1, h2.symm⟩
  · rintro ⟨k, l, h1, rfl⟩
    exact ⟨k, by rw [putA_at, h1]; rfl⟩
theorem putA_look {ll : List (List Int)} {last k : Nat} {l : List Int} (h : AOk (putA ll) last) (hk : ll[k]? = some l) : look (putA ll) (2 * (k : Int) + 1) = some (mkC l) :=
  (look_some h.so).2 ⟨2 * k + 1, by omega, putA_mem.2 ⟨k, l, hk, rfl⟩⟩
theorem putA_none {ll : List (List Int)} {id : Int} (h : ∀ k : Nat, k < ll.length → id ≠ 2 * (k : Int) + 1) : look (putA ll) id = none := by
  rw [look_none]
  intro c hc
  obtain ⟨k, l, hk, rfl⟩ := putA_mem.1 hc
  have := h k (List.getElem?_eq_some_iff.1 hk).1
  show ((2 * k + 1 : Nat) : Int) ≠ id
  omega
set_option maxRecDepth 100000 in
theorem law_lits {A : Option Addr} {n c B : Nat} {ll : List (List Int)} {vs : List Value} (w : World) (hrd : Reads w B 1 A n vs) (hN : Nest w B vs ll) (hB : B ≤ w.heap.size) (hm : n ≤ 9223372036854775807) (hc : n ≤ c) (wh : Nat) (hwh : wh ≤ 255) (q : Int) (hq : -9223372036854775808 ≤ q ∧ q ≤ 9223372036854775807) :
    Calls Try.prog 8 #[.slice A n c, .int .u8 (wh : Int), .int .i64 q] w fun e w' => e = .returned (.bool true) ∧ Below w.heap.size w w' := by
  have hput := put_ok hrd hN hB hm hc
  unfold PutP at hput
  have hll : ll.length = n := by have := hrd.1; have := hN.len; omega
  obtain ⟨L, hL⟩ : ∃ L, L = ll.take 60 := ⟨_, rfl⟩
  have hLl : L.length = min 60 n := by rw [hL, List.length_take, hll]
  have hLa : ∀ (k : Nat) (l : List Int), L[k]? = some l → ll[k]? = some l := fun k l h => by
    rw [hL, List.getElem?_take] at h
    split at h
    · exact h
    · cases h
  rw [← hL] at hput
  obtain ⟨N, hNn⟩ : ∃ N, N = L.length := ⟨_, rfl⟩
  rw [← hNn] at hput hLl
  replace hput := Lib.hid hput
  replace hLa := Lib.hid hLa
  replace hrd := Lib.hid hrd
  replace hN := Lib.hid hN
  have hNn' := Lib.hid hNn
  obtain ⟨q1, q2⟩ := hq
  clear hL hNn hll
  go_enter Try.func8, Try.ntmps8
  go_upto_region 4 with (go_at_call 25; refine hput.out.mono ?_; rintro e W1 ⟨d, rfl, hR⟩)
  go_cut [9] (fun v wx => v = .int .i64 (N : Int) ∧ W1 = wx)
  case first =>
    go_wp2
    all_goals (go_meet; exact ⟨by congr 1; omega, rfl⟩)
  case rest =>
    obtain ⟨rfl, rfl⟩ := hcut
    by_cases h0 : N = 0
    · subst h0
      have hLnil : L = [] := List.eq_nil_of_length_eq_zero hNn'.out.symm
      rw [hLnil] at hR
      have hal : putA [] = [] := rfl
      rw [hal] at hR
      clear hLl
      go_wp2_with (first
        | (go_at_call 22; refine (run_count hR (n := 0) rfl).mono ?_; rintro e W4 ⟨rfl, rfl⟩)
        | (go_at_call 21; refine (run_has hR 1 (by omega) (b := false) (by decide +kernel)).mono ?_; rintro e W4 ⟨rfl, hR4⟩; clear hR; have hR := hR4; clear hR4)
        | (go_at_call 12; refine (awake_ok _).mono ?_; rintro e W4 ⟨rfl, hB4⟩))
      go_ret
      exact ⟨rfl, hR.below.trans (hB4.mono hR.below.size)⟩
    · have hkN : wh % N < N := Nat.mod_lt _ (by omega)
      have hdiv : ((wh : Int)).tmod (N : Int) = ((wh % N : Nat) : Int) := by rw [Int.tmod_eq_emod_of_nonneg (by omega)]; rfl
      generalize wh % N = k at hkN hdiv
      obtain ⟨l, hl⟩ : ∃ l, L[k]? = some l := ⟨_, List.getElem?_eq_getElem (by rw [← hNn'.out]; exact hkN)⟩
      have hok := hR.ok
      have hlk := some_facts (putA_look hok hl)
      have hno := none_facts (putA_none (ll := L) (id := 2 * (k : Int) + 2) (fun j _ => by omega))
      obtain ⟨A2, n2, c2, hv, hrd2, hn2, hm2, hx2⟩ := (hN.out.below (hR.below.mono hB)).at_ k l (hLa.out k l hl)
      obtain ⟨ad, u, rfl, hab, hu, q0⟩ := (hrd.out.below (hR.below.mono hB)).at_ (show k < n by omega)
      have := hu.symm.trans hv
      cases this
      have hmd := made_ok A2 n2 c2 B l W1 hrd2 (Nat.le_trans hB hR.below.size) hm2 hn2 hx2
      have hcl := mkC_len l
      have t1 : (k : Int) < (n : Int) := by omega
      have t3 : 0 ≤ (k : Int) := by omega
      have t4 : ¬ (N : Int) = 0 := by omega
      have t5 : (k : Int) ≤ 60 := by omega
      have t6 : decide ((N : Int) = 0) = false := by simp; omega
      have t7 : ((N : Int) == 0) = false := by simp; omega
      generalize putA L = al at *
      generalize mkC l = cl at *
      obtain ⟨m, hml⟩ : ∃ m, m = cl.length := ⟨_, rfl⟩
      rw [← hml] at hcl hlk
      unfold MadeP at hmd
      rw [← hml] at hmd
      have hml' := Lib.hid hml
      replace hlk := Lib.hid hlk
      replace hno := Lib.hid hno
      replace hmd := Lib.hid hmd
      clear hl hu hv hx2 hLl hkN hml h0
      have s0 := Lib.hid trivial
      go_wp2_with (first
        | (go_at_call 27; refine hmd.out.mono ?_; rintro e W2 ⟨A3, c3, rfl, hown, hB2⟩; have hR2 := hR.fresh (t := rowT W1.heap.size 30 1 (.slice A3 m c3) m (lits cl)) hB2 hown (fun k hk => hown.lt k (by simpa [rowT] using hk)); clear hR; have hR := hR2; clear hR2)
        | (go_at_call 18; refine (run_len hR _ (by omega) (n := m) (by rw [hlk.out.1, hml'.out]) hlk.out.2.1).mono ?_; rintro e W4 ⟨rfl, hR4⟩; clear hR; have hR := hR4; clear hR4)
        | (go_at_call 21; clear s0; refine (run_has hR _ (by omega) hlk.out.2.2.1).mono ?_; rintro e W4 ⟨rfl, hR4⟩; clear hR; have hR := hR4; clear hR4)
        | (go_at_call 21; refine (run_has hR _ (by omega) hno.out.2.2.1).mono ?_; rintro e W4 ⟨rfl, hR4⟩; clear hR; have hR := hR4; clear hR4))
      clear hN hrd hrd2 hmd hput hLa q0 hab
      go_loopw [89] (fun i wr => ∃ j : Nat, j ≤ m ∧ i = .int .i64 j ∧ Run w [] [rowT W1.heap.size 30 1 (.slice A3 m c3) m (lits cl)] d al (putL N) wr) (fun i _ => m - (intOf i).toNat)
      case atStart => exact ⟨0, by omega, rfl, hR⟩
      case round =>
        clear hR
        obtain ⟨j, hj, rfl, hR⟩ := hrel
        by_cases hlt : j < m
        · have hown : wr.ownsRow W1.heap.size 30 1 (.slice A3 m c3) m (lits cl) := hR.thing (t := rowT W1.heap.size 30 1 (.slice A3 m c3) m (lits cl)) (by simp)
          obtain ⟨ad, x, rfl, hab, hx, q0⟩ := reads_num (Reads.of_own hown) hlt
          have hxl := hlk.out.2.2.2.2.1 j x hx
          replace hxl := Lib.hid hxl
          clear hx hown
          have u1 : (j : Int) < (m : Int) := by omega
          have u2 : 0 ≤ (j : Int) := by omega
          go_wp2_with (go_at_call 19; refine (run_lit hR _ _ (by omega) hxl.out.1 hxl.out.2).mono ?_; rintro e W4 ⟨rfl, hR4⟩; clear hR; have hR := hR4; clear hR4)
          go_roundw
          case rel => exact ⟨j + 1, by omega, by go_num, hR⟩
          case measure => simp [intOf]; omega
        · obtain rfl : j = m := by omega
          have s1 := Lib.hid trivial
          have s2 := Lib.hid trivial
          have hbig : ∀ i : Int, i < 0 ∨ (j : Int) ≤ i → litV al (2 * (k : Int) + 1) i = 0 ∧ litE al (2 * (k : Int) + 1) i = 2 := fun i hi => hlk.out.2.2.2.2.2 i hi
          replace hbig := Lib.hid hbig
          go_wp2_with (first
            | (go_at_call 19; clear s1; refine (run_lit hR _ _ (by omega) (hbig.out _ (by omega)).1 (hbig.out _ (by omega)).2).mono ?_; rintro e W4 ⟨rfl, hR4⟩; clear hR; have hR := hR4; clear hR4)
            | (go_at_call 19; clear s2; refine (run_lit hR _ _ (by omega) (hbig.out _ (by omega)).1 (hbig.out _ (by omega)).2).mono ?_; rintro e W4 ⟨rfl, hR4⟩; clear hR; have hR := hR4; clear hR4)
            | (go_at_call 19; refine (run_lit hR _ _ (by omega) (hno.out.2.2.2.2.2.1 _) (hno.out.2.2.2.2.2.2 _)).mono ?_; rintro e W4 ⟨rfl, hR4⟩; clear hR; have hR := hR4; clear hR4)
            | (go_at_call 12; refine (awake_ok _).mono ?_; rintro e W4 ⟨rfl, hB4⟩))
          all_goals
            go_ret
            exact ⟨rfl, hR.below.trans (hB4.mono hR.below.size)⟩
end Go.Proofs.Ytlcfgpkokaiogaa
