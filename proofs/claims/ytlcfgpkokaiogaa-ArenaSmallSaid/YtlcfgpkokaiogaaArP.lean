/- Arenas: law 9 (wrong). -/
import Derived.Test.YtlcfgpkokaiogaaArO
namespace Go.Proofs.Ytlcfgpkokaiogaa
open Go Go.RowKit Go.Shelf
set_option linter.unusedVariables false
set_option linter.unusedSimpArgs false
set_option maxHeartbeats 4000000
/-- Numbers of no clause. -/
theorem none_facts {al : List (Nat × List Int)} {id : Int} (h : look al id = none) : getL al id = [] ∧ getE al id = 30 ∧ hasA al id = false ∧ delErr al id = 30 ∧ without al id = al ∧ (∀ i, litV al id i = 0) ∧ ∀ i, litE al id i = 30 := by
  have h1 : getL al id = [] := by unfold getL; rw [h]; rfl
  refine ⟨h1, if_pos h, ?_, if_pos h, without_none h, fun i => ?_, fun i => if_pos h⟩
  · unfold hasA; rw [h]; rfl
  · unfold litV; rw [h1]; split <;> simp
theorem AOk.none_ {al : List (Nat × List Int)} {last : Nat} (h : AOk al last) {id : Int} (hid : id < 1 ∨ last < id) : look al id = none := by
  rw [look_none]
  intro c hc
  have := h.id1 c hc
  omega
theorem add_bad {al : List (Nat × List Int)} {last : Nat} {id : Int} {l : List Int} (h : ¬ ClOk l) : addErr al last id l = 20 ∧ addAl al last id l = al ∧ addLast al last id l = last := by
  have he : addErr al last id l = 20 := if_pos h
  exact ⟨he, if_neg (by rw [he]; decide), if_neg (by rw [he]; decide)⟩
theorem add_num {al : List (Nat × List Int)} {last : Nat} {id : Int} {l : List Int} (h : ClOk l) (hid : id < 1 ∨ 1073741824 < id ∨ id ≤ last) : addErr al last id l = 30 ∧ addAl al last id l = al ∧ addLast al last id l = last := by
  have he : addErr al last id l = 30 := by unfold addErr; rw [if_neg (by simpa using h), if_pos hid]
  exact ⟨he, if_neg (by rw [he]; decide), if_neg (by rw [he]; decide)⟩
theorem clok_nil : ClOk [] := ⟨by simp, by simp⟩
theorem not_clok : ¬ ClOk [1, 0] := by decide
/-- The slice of the three numbers that there are not. -/
def BadAt (w0 : World) (s l i : Value) (w : World) : Prop := ∃ S b1 b2, s = .slice (some ⟨S, 0, none⟩) 3 3 ∧ l = .int .i64 3 ∧ i = .int .i64 0 ∧ w0.heap.size ≤ S ∧ S < w.heap.size ∧ Blk w S 3 #[.int .i64 0, .int .i64 b1, .int .i64 b2] ∧ Below w0.heap.size w0 w ∧ (b1 ≤ -1 ∧ -9223372036854775808 ≤ b1) ∧ 1073741825 ≤ b2 ∧ b2 ≤ 9223372036854775807
theorem bad_mk {w0 : World} {b1 b2 : Int} (h1 : b1 ≤ -1 ∧ -9223372036854775808 ≤ b1) (h2 : 1073741825 ≤ b2 ∧ b2 ≤ 9223372036854775807) : BadAt w0 (.slice (some ⟨w0.heap.size, 0, none⟩) 3 3) (.int .i64 3) (.int .i64 0) (w0.alloc (.cells #[.int .i64 0, .int .i64 b1, .int .i64 b2] 3)) :=
  ⟨_, b1, b2, rfl, rfl, rfl, Nat.le_refl _, by simp, Blk.new _ _ _, (Below.refl _ _).alloc (Nat.le_refl _) _, h1, h2⟩
theorem blk_reads {W : World} {g : Nat} {e : TypeId} {xs : List Value} {n : Nat} (h : Blk W g e xs.toArray) (hn : xs.length = n) : Reads W W.heap.size 1 (some ⟨g, 0, none⟩) n xs := ⟨by omega, fun _ => ⟨_, rfl, h.lt, fun j u hu => by
  have h0 := h.cell j
  rw [Addr.add_lit, Nat.zero_add, h0]
  simpa using hu⟩⟩
def badT (g : Nat) : Thing := blkT g 30 #[.int .i64 1, .int .i64 0]
set_option maxRecDepth 100000 in
theorem law_wrong {A : Option Addr} {n c B : Nat} {ll : List (List Int)} {vs : List Value} (w : World) (hrd : Reads w B 1 A n vs) (hN : Nest w B vs ll) (hB : B ≤ w.heap.size) (hm : n ≤ 9223372036854775807) (hc : n ≤ c) (q : Int) (hq : -9223372036854775808 ≤ q ∧ q ≤ 9223372036854775807) :
    Calls Try.prog 9 #[.slice A n c, .int .i64 q] w fun e w' => e = .returned (.bool true) ∧ Below w.heap.size w w' := by
  have hput := put_ok hrd hN hB hm hc
  unfold PutP at hput
  generalize putA (ll.take 60) = al at hput
  generalize putL (ll.take 60).length = last at hput
  replace hput := Lib.hid hput
  obtain ⟨q1, q2⟩ := hq
  clear hrd hN hB
  go_enter Try.func9, Try.ntmps9
  go_upto_region 6 with (first
    | (go_at_call 25; refine hput.out.mono ?_; rintro e W1 ⟨d, rfl, hR⟩)
    | (go_at_call 22; refine (run_count hR rfl).mono ?_; rintro e W4 ⟨rfl, rfl⟩)
    | (go_at_call 16; refine (run_used hR rfl).mono ?_; rintro e W4 ⟨rfl, rfl⟩)
    | (go_at_call 24; refine (run_last hR rfl).mono ?_; rintro e W4 ⟨rfl, rfl⟩))
  have hR1 := hR.fresh (t := badT W1.heap.size) ((Below.refl _ _).alloc (Nat.le_refl _) (.cells #[.int .i64 1, .int .i64 0] 30)) (Blk.new _ _ _) (by simp [badT, blkT])
  generalize hg : W1.heap.size = g at *
  generalize W1.alloc (.cells #[.int .i64 1, .int .i64 0] 30) = W2 at *
  clear hR hg
  go_cut [35, 36, 37] (fun s l i wx => BadAt W2 s l i wx)
  case first =>
    go_wp2
    all_goals (go_meet; exact bad_mk (by omega) (by omega))
  case rest =>
    obtain ⟨S, b1, b2, rfl, rfl, rfl, hS1, hS2, hbk, hBw, hb1, hb2⟩ := hcut
    have hR := hR1.fresh hBw (t := blkT S 3 #[.int .i64 0, .int .i64 b1, .int .i64 b2]) hbk (by simp [blkT]; omega)
    have hok := hR.ok
    have hla := hok.la
    clear hR1 hBw hbk hS1 hS2
    replace hb1 := Lib.hid hb1
    replace hb2 := Lib.hid hb2
    replace hok := Lib.hid hok
    go_wp2_with fail
    go_loopw [37] (fun i wr => ∃ k : Nat, k ≤ 3 ∧ i = .int .i64 k ∧ Run w [] [blkT S 3 #[.int .i64 0, .int .i64 b1, .int .i64 b2], badT g] d al last wr) (fun i _ => 3 - (intOf i).toNat)
    case atStart => exact ⟨0, by omega, rfl, hR⟩
    case round =>
      clear hR
      obtain ⟨k, hk, rfl, hR⟩ := hrel
      by_cases hlt : k < 3
      · obtain ⟨x, hx, q0⟩ : ∃ x : Int, (x = 0 ∨ x = b1 ∨ x = b2) ∧ wr.cell? ⟨S, k, none⟩ = some (.int .i64 x) := by
          have hb : Blk wr S 3 #[.int .i64 0, .int .i64 b1, .int .i64 b2] := hR.thing (t := blkT S 3 #[.int .i64 0, .int .i64 b1, .int .i64 b2]) (by simp)
          have h3 := hb.cell k
          have hk3 : k = 0 ∨ k = 1 ∨ k = 2 := by omega
          rcases hk3 with rfl | rfl | rfl
          · exact ⟨0, .inl rfl, by simpa using h3⟩
          · exact ⟨b1, .inr (.inl rfl), by simpa using h3⟩
          · exact ⟨b2, .inr (.inr rfl), by simpa using h3⟩
        have hx1 : (x < 1 ∨ 1073741824 < x) ∧ -9223372036854775808 ≤ x ∧ x ≤ 9223372036854775807 := by
          have e1 := hb1.out
          have e2 := hb2.out
          rcases hx with rfl | rfl | rfl <;> omega
        have hno := none_facts (hok.out.none_ (id := x) (by omega))
        have ha1 := add_num (al := al) (last := last) (id := x) clok_nil (by omega)
        have ha2 := add_bad (al := al) (last := last) (id := x) not_clok
        have hxb := hx1.2
        replace hno := Lib.hid hno
        replace ha1 := Lib.hid ha1
        replace ha2 := Lib.hid ha2
        replace hxb := Lib.hid hxb
        clear hx hx1
        have hlt2 : (k : Int) < 3 := by omega
        have hk0 : 0 ≤ (k : Int) := by omega
        have t0 := Lib.hid trivial
        go_wp2_with (first
          | (go_at_call 17; refine (run_get hR x hxb.out hno.out.1 hno.out.2.1).mono ?_; rintro e W4 ⟨A7, c7, rfl, hR4⟩; clear hR; have hR := hR4.tail; clear hR4)
          | (go_at_call 18; refine (run_len hR x hxb.out (n := 0) (by rw [hno.out.1]; rfl) hno.out.2.1).mono ?_; rintro e W4 ⟨rfl, hR4⟩; clear hR; have hR := hR4; clear hR4)
          | (go_at_call 14; clear t0; refine (run_add hR (nil_reads _) (Nat.le_refl _) (by decide) x ha1.out.1 ha1.out.2.1 ha1.out.2.2).mono ?_; rintro e W4 ⟨rfl, hR4⟩; clear hR; have hR := hR4; clear hR4)
          | (go_at_call 14; refine (run_add hR (blk_reads (xs := lits [1, 0]) (hR.thing (t := badT g) (by simp)) rfl) (Nat.le_refl _) (by decide) x ha2.out.1 ha2.out.2.1 ha2.out.2.2).mono ?_; rintro e W4 ⟨rfl, hR4⟩; clear hR; have hR := hR4; clear hR4)
          | (go_at_call 15; refine (run_del hR x hxb.out hno.out.2.2.2.1 hno.out.2.2.2.2.1).mono ?_; rintro e W4 ⟨rfl, hR4⟩; clear hR; have hR := hR4; clear hR4)
          | (go_at_call 21; refine (run_has hR x hxb.out hno.out.2.2.1).mono ?_; rintro e W4 ⟨rfl, hR4⟩; clear hR; have hR := hR4; clear hR4))
        go_roundw
        case rel => exact ⟨k + 1, by omega, by go_num, hR⟩
        case measure => simp [intOf]; omega
      · obtain rfl : k = 3 := by omega
        clear hb1 hb2
        have ha2 := add_bad (al := al) (last := last) (id := (last : Int) + 1) not_clok
        replace ha2 := Lib.hid ha2
        go_wp2_with (first
          | (go_at_call 14; refine (run_add hR (blk_reads (xs := lits [1, 0]) (hR.thing (t := badT g) (by simp)) rfl) (Nat.le_refl _) (by decide) _ ha2.out.1 ha2.out.2.1 ha2.out.2.2).mono ?_; rintro e W4 ⟨rfl, hR4⟩; clear hR; have hR := hR4; clear hR4)
          | (go_at_call 22; refine (run_count hR rfl).mono ?_; rintro e W4 ⟨rfl, rfl⟩)
          | (go_at_call 16; refine (run_used hR rfl).mono ?_; rintro e W4 ⟨rfl, rfl⟩)
          | (go_at_call 24; refine (run_last hR rfl).mono ?_; rintro e W4 ⟨rfl, rfl⟩)
          | (go_at_call 12; refine (awake_ok _).mono ?_; rintro e W4 ⟨rfl, hB4⟩))
        go_ret
        exact ⟨rfl, hR.below.trans (hB4.mono hR.below.size)⟩
end Go.Proofs.Ytlcfgpkokaiogaa
