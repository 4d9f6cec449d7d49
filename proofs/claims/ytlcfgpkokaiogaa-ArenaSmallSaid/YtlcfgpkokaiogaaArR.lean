/- Arenas: law 7 (once). -/
import Derived.Test.YtlcfgpkokaiogaaArQ
namespace Go.Proofs.Ytlcfgpkokaiogaa
open Go Go.RowKit Go.Shelf
set_option linter.unusedVariables false
set_option linter.unusedSimpArgs false
set_option maxHeartbeats 4000000
/-- What is there behind some rounds. -/
def delN (al : List (Nat × List Int)) (b N : Nat) : Nat → List (Nat × List Int)
  | 0 => al
  | j + 1 => without (delN al b N j) (2 * (((j + b) % N : Nat) : Int) + 1)
theorem mem_without {al : List (Nat × List Int)} {id : Int} {c : Nat × List Int} : c ∈ without al id ↔ c ∈ al ∧ (c.1 : Int) ≠ id := by simp [without]
theorem mem_delN {al : List (Nat × List Int)} {b N : Nat} {c : Nat × List Int} : ∀ j, c ∈ delN al b N j ↔ c ∈ al ∧ ∀ i, i < j → (c.1 : Int) ≠ 2 * (((i + b) % N : Nat) : Int) + 1
  | 0 => by simp [delN]
  | j + 1 => by
    rw [delN, mem_without, mem_delN j]
    constructor
    · rintro ⟨⟨h1, h2⟩, h3⟩
      refine ⟨h1, fun i hi => ?_⟩
      by_cases e : i = j
      · subst e; exact h3
      · exact h2 i (by omega)
    · rintro ⟨h1, h2⟩
      exact ⟨⟨h1, fun i hi => h2 i (by omega)⟩, h2 j (by omega)⟩
theorem mod_inj {b N i j : Nat} (hi : i < N) (hj : j < N) (h : (i + b) % N = (j + b) % N) : i = j := by
  rcases Nat.le_total i j with h1 | h1
  · have h2 := Nat.sub_mod_eq_zero_of_mod_eq h.symm
    rw [show j + b - (i + b) = j - i by omega, Nat.mod_eq_of_lt (by omega)] at h2
    omega
  · have h2 := Nat.sub_mod_eq_zero_of_mod_eq h
    rw [show i + b - (j + b) = i - j by omega, Nat.mod_eq_of_lt (by omega)] at h2
    omega
theorem mod_sur {b N k : Nat} (hk : k < N) : ∃ i, i < N ∧ (i + b) % N = k := by
  refine ⟨(k + (N - b % N)) % N, Nat.mod_lt _ (by omega), ?_⟩
  rw [Nat.mod_add_mod]
  have h1 := Nat.mod_add_div b N
  have h2 := Nat.mod_lt b (show 0 < N by omega)
  rw [show k + (N - b % N) + b = k + N * (1 + b / N) by rw [Nat.mul_add]; omega, Nat.add_mul_mod_self_left, Nat.mod_eq_of_lt hk]

theorem delN_look {ll : List (List Int)} {last b j : Nat} (h : AOk (delN (putA ll) b ll.length j) last) (hj : j < ll.length) : ∃ l, look (delN (putA ll) b ll.length j) (2 * (((j + b) % ll.length : Nat) : Int) + 1) = some l := by
  have hlt : (j + b) % ll.length < ll.length := Nat.mod_lt _ (by omega)
  refine ⟨mkC ll[(j + b) % ll.length], (look_some h.so).2 ⟨2 * ((j + b) % ll.length) + 1, by omega, (mem_delN j).2 ⟨putA_mem.2 ⟨_, _, List.getElem?_eq_getElem hlt, rfl⟩, fun i hi he => ?_⟩⟩⟩
  dsimp only at he
  have := mod_inj (b := b) (N := ll.length) (show i < ll.length by omega) hj (by omega)
  omega
theorem delN_nil (ll : List (List Int)) (b : Nat) : delN (putA ll) b ll.length ll.length = [] := by
  rw [List.eq_nil_iff_forall_not_mem]
  intro c hc
  obtain ⟨h1, h2⟩ := (mem_delN _).1 hc
  obtain ⟨k, l, hk, rfl⟩ := putA_mem.1 h1
  obtain ⟨i, hi, he⟩ := mod_sur (b := b) (List.getElem?_eq_some_iff.1 hk).1
  have := h2 i hi
  rw [he] at this
  dsimp only at this
  omega
set_option maxRecDepth 100000 in
theorem law_once {A : Option Addr} {n c B : Nat} {ll : List (List Int)} {vs : List Value} (w : World) (hrd : Reads w B 1 A n vs) (hN : Nest w B vs ll) (hB : B ≤ w.heap.size) (hm : n ≤ 9223372036854775807) (hc : n ≤ c) (b : Nat) (hb : b ≤ 255) (q : Int) (hq : -9223372036854775808 ≤ q ∧ q ≤ 9223372036854775807) :
    Calls Try.prog 7 #[.slice A n c, .int .u8 (b : Int), .int .i64 q] w fun e w' => e = .returned (.bool true) ∧ Below w.heap.size w w' := by
  have hput := put_ok hrd hN hB hm hc
  unfold PutP at hput
  have hll : ll.length = n := by have := hrd.1; have := hN.len; omega
  obtain ⟨L, hL⟩ : ∃ L, L = ll.take 60 := ⟨_, rfl⟩
  have hLl : L.length = min 60 n := by rw [hL, List.length_take, hll]
  rw [← hL] at hput
  obtain ⟨N, hNn⟩ : ∃ N, N = L.length := ⟨_, rfl⟩
  have hnil := delN_nil L b
  have hlook := fun j last => @delN_look L last b j
  rw [← hNn] at hput hLl hnil
  simp only [← hNn] at hlook
  replace hput := Lib.hid hput
  replace hlook := Lib.hid hlook
  replace hnil := Lib.hid hnil
  obtain ⟨q1, q2⟩ := hq
  clear hL hNn hll hrd hN
  obtain ⟨la, hla⟩ : ∃ la, la = putL N := ⟨_, rfl⟩
  have hlv : (la : Int) = 2 * (N : Int) - 1 ∨ la = 0 ∧ N = 0 := by rw [hla]; unfold putL; omega
  rw [← hla] at hput
  clear hla
  have hN60 : N ≤ 60 := by omega
  go_enter Try.func7, Try.ntmps7
  go_upto_region 4 with (go_at_call 25; refine hput.out.mono ?_; rintro e W1 ⟨d, rfl, hR⟩)
  go_cut [9] (fun v wx => v = .int .i64 (N : Int) ∧ W1 = wx)
  case first =>
    go_wp2
    all_goals (go_meet; exact ⟨by congr 1; omega, rfl⟩)
  case rest =>
    obtain ⟨rfl, rfl⟩ := hcut
    have hlv2 := Lib.hid hLl
    clear hLl
    go_upto_region 5 with fail
    go_cut [10] (fun v wx => v = .int .i64 (la : Int) ∧ W1 = wx)
    case first =>
      go_wp2
      all_goals (go_meet; exact ⟨by congr 1; omega, rfl⟩)
    case rest =>
      obtain ⟨rfl, rfl⟩ := hcut
      have hlb : (la : Int) ≤ 119 := by omega
      clear hlv hlv2
      go_wp2_with fail
      go_loopw [27] (fun i wr => ∃ j : Nat, j ≤ N ∧ i = .int .i64 j ∧ Run w [] [] d (delN (putA L) b N j) la wr) (fun i _ => N - (intOf i).toNat)
      case atStart => exact ⟨0, by omega, rfl, hR⟩
      case round =>
        clear hR
        obtain ⟨j, hj, rfl, hR⟩ := hrel
        by_cases hlt : j < N
        · obtain ⟨l, hl⟩ := hlook.out j la hR.ok hlt
          have hlk := some_facts hl
          have hdiv : ((j : Int) + (b : Int)).tmod (N : Int) = (((j + b) % N : Nat) : Int) := by rw [Int.tmod_eq_emod_of_nonneg (by omega)]; rfl
          have hr : (j + b) % N < N := Nat.mod_lt _ (by omega)
          have hs : without (delN (putA L) b N j) (2 * (((j + b) % N : Nat) : Int) + 1) = delN (putA L) b N (j + 1) := rfl
          generalize (j + b) % N = r at *
          replace hlk := Lib.hid hlk
          replace hs := Lib.hid hs
          clear hl
          have t1 : (j : Int) < (N : Int) := by omega
          have t3 : 0 ≤ (j : Int) := by omega
          have t5 : (r : Int) ≤ 60 := by omega
          go_wp2_with (go_at_call 15; refine (run_del hR _ (by omega) hlk.out.2.2.2.1 hs.out).mono ?_; rintro e W4 ⟨rfl, hR4⟩; clear hR; have hR := hR4; clear hR4)
          go_roundw
          case rel => exact ⟨j + 1, by omega, by go_num, hR⟩
          case measure => simp [intOf]; omega
        · obtain rfl : j = N := by omega
          rw [hnil.out] at hR
          clear hlook hnil hput
          have ha2 : addErr [] la ((la : Int) + 1) [] = 0 ∧ addAl [] la ((la : Int) + 1) [] = [(la + 1, [])] ∧ addLast [] la ((la : Int) + 1) [] = la + 1 := by
            have he : addErr [] la ((la : Int) + 1) [] = 0 := by
              unfold addErr
              rw [if_neg (by simpa using clok_nil), if_neg (by omega), if_neg (by simp [usedL])]
            exact ⟨he, by unfold addAl; rw [if_pos he]; simp, by unfold addLast; rw [if_pos he]; omega⟩
          have ha1 : ∀ id : Int, id ≤ la → addErr [] la id [] = 30 ∧ addAl [] la id [] = [] ∧ addLast [] la id [] = la := fun id h => add_num clok_nil (by omega)
          replace ha1 := Lib.hid ha1
          replace ha2 := Lib.hid ha2
          have s0 := Lib.hid trivial
          have s1 := Lib.hid trivial
          go_wp2_with (first
            | (go_at_call 22; refine (run_count hR (n := 0) rfl).mono ?_; rintro e W4 ⟨rfl, rfl⟩)
            | (go_at_call 16; refine (run_used hR (n := 0) rfl).mono ?_; rintro e W4 ⟨rfl, rfl⟩)
            | (go_at_call 23; refine (run_held hR).mono ?_; rintro e W3 ⟨nh, rfl, rfl, hh1, hh2⟩; rw [show usedL [] = 0 from rfl] at hh1 hh2)
            | (go_at_call 24; clear s1; refine (run_last hR (n := (la : Int)) rfl).mono ?_; rintro e W4 ⟨rfl, rfl⟩)
            | (go_at_call 14; clear s0; refine (run_add hR (nil_reads _) (Nat.le_refl _) (by decide) _ (ha1.out _ (by omega)).1 (ha1.out _ (by omega)).2.1 (ha1.out _ (by omega)).2.2).mono ?_; rintro e W4 ⟨rfl, hR4⟩; clear hR; have hR := hR4; clear hR4)
            | (go_at_call 14; refine (run_add hR (nil_reads _) (Nat.le_refl _) (by decide) _ ha2.out.1 ha2.out.2.1 ha2.out.2.2).mono ?_; rintro e W4 ⟨rfl, hR4⟩; clear hR; have hR := hR4; clear hR4)
            | (go_at_call 24; refine (run_last hR (n := (la : Int) + 1) (by omega)).mono ?_; rintro e W4 ⟨rfl, rfl⟩)
            | (go_at_call 12; refine (awake_ok _).mono ?_; rintro e W4 ⟨rfl, hB4⟩))
          all_goals
            go_ret
            exact ⟨rfl, hR.below.trans (hB4.mono hR.below.size)⟩
end Go.Proofs.Ytlcfgpkokaiogaa
