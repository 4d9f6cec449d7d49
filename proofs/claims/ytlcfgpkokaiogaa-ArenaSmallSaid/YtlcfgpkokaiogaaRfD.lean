/- Arenas: asks. -/
import Derived.Test.YtlcfgpkokaiogaaRfC
namespace Go.Proofs.Ytlcfgpkokaiogaa
open Go Go.RowKit Go.Shelf
set_option linter.unusedVariables false
set_option linter.unusedSimpArgs false
set_option maxHeartbeats 4000000
section
variable {w : World} {A : Option Addr} {n c B base d : Nat} {fp : List Nat} {es : List REn} {last : Nat} {id : Int}
set_option maxRecDepth 100000 in
theorem asks_no (hA : Arena w base d fp (alR es) last) (hR : RefR w B A n c es) (hB : B ≤ w.heap.size) (hid : -9223372036854775808 ≤ id ∧ id ≤ 9223372036854775807) (hf : fndI es id = -1) (hn : look (alR es) id = none) :
    Calls Try.prog 33 #[.pointer (some ⟨d, 0, none⟩), .agg #[.slice A n c, .int .i64 (last : Int)], .int .i64 id] w fun e w' => e = .returned (.bool true) ∧ Below w.heap.size w w' := by
  obtain ⟨f1, f2, f3, _, _, f6, f7⟩ := none_facts hn
  have hfind : ∀ W, Below w.heap.size w W → Calls Try.prog 46 #[.agg #[.slice A n c, .int .i64 (last : Int)], .int .i64 id] W fun e w' => e = .returned (.int .i64 (-1)) ∧ Below W.heap.size W w' := fun W hW => by
    have := rfind_ok (last := (last : Int)) (hR.below hB hW) (Nat.le_trans hB hW.size) id
    rwa [hf] at this
  have hget : ∀ W, Below w.heap.size w W → Calls Try.prog 17 #[.pointer (some ⟨d, 0, none⟩), .int .i64 id] W fun r w' => ∃ A7 c7, r = .returned (.tuple #[.slice A7 0 c7, .int .i64 30]) ∧ Below W.heap.size W w' := fun W hW => by
    have := get_arena (hA.new hW) id hid
    rw [f1, f2] at this
    exact this.mono fun e w' ⟨A7, c7, h1, _, h3⟩ => ⟨A7, c7, h1, h3⟩
  have hlen : ∀ W, Below w.heap.size w W → Calls Try.prog 18 #[.pointer (some ⟨d, 0, none⟩), .int .i64 id] W fun r w' => r = .returned (.tuple #[.int .i64 0, .int .i64 30]) ∧ Below W.heap.size W w' := fun W hW => by
    have := len_arena (hA.new hW) id hid
    rw [f1, f2] at this
    exact this
  have hhas : ∀ W, Below w.heap.size w W → Calls Try.prog 21 #[.pointer (some ⟨d, 0, none⟩), .int .i64 id] W fun r w' => r = .returned (.bool false) ∧ Below W.heap.size W w' := fun W hW => by
    have := has_arena (hA.new hW) id hid
    rwa [f3] at this
  have hlit : ∀ W, Below w.heap.size w W → Calls Try.prog 19 #[.pointer (some ⟨d, 0, none⟩), .int .i64 id, .int .i64 (-1)] W fun r w' => r = .returned (.tuple #[.int .i64 0, .int .i64 30]) ∧ Below W.heap.size W w' := fun W hW => by
    have := lit_arena (hA.new hW) id (-1) hid
    rw [f6, f7] at this
    exact this
  replace hfind := Lib.hid hfind
  replace hget := Lib.hid hget
  replace hlen := Lib.hid hlen
  replace hhas := Lib.hid hhas
  replace hlit := Lib.hid hlit
  clear f1 f2 f3 f6 f7 hA hR hf hn hid
  have hW := (Below.refl _ w).alloc (Nat.le_refl _) (.cells #[.slice A n c, .int .i64 (last : Int)] 64)
  have k4 := Blk.new w 64 #[.slice A n c, .int .i64 (last : Int)]
  go_enter Try.func33, Try.ntmps33
  go_upto_region 1 with (fail)
  generalize w.alloc (.cells #[.slice A n c, .int .i64 (last : Int)] 64) = W at *
  go_wp2_with (first
    | (go_at_call 17; refine (hget.out _ hW).mono ?_; rintro e W2 ⟨A7, c7, rfl, hB2⟩; have hW2 := hW.trans (hB2.mono hW.size))
    | (go_at_call 18; refine (hlen.out _ hW2).mono ?_; rintro e W3 ⟨rfl, hB3⟩; have hW3 := hW2.trans (hB3.mono hW2.size); have k4' := (k4.below hB2 k4.lt).below hB3 (k4.below hB2 k4.lt).lt; have c0 := k4'.cell 0; have c1 := k4'.cell 1; simp only [List.getElem?_toArray, List.getElem?_cons_zero, List.getElem?_cons_succ] at c0 c1)
    | (go_at_call 46; refine (hfind.out _ hW3).mono ?_; rintro e W4 ⟨rfl, hB4⟩; have hW4 := hW3.trans (hB4.mono hW3.size))
    | (go_at_call 21; refine (hhas.out _ hW4).mono ?_; rintro e W5 ⟨rfl, hB5⟩; have hW5 := hW4.trans (hB5.mono hW4.size))
    | (go_at_call 19; refine (hlit.out _ hW5).mono ?_; rintro e W6 ⟨rfl, hB6⟩; have hW6 := hW5.trans (hB6.mono hW5.size)))
  go_ret
  exact ⟨rfl, hW6⟩
set_option maxRecDepth 100000 in
theorem asks_yes (hA : Arena w base d fp (alR es) last) (hR : RefR w B A n c es) (hB : B ≤ w.heap.size) (hid : -9223372036854775808 ≤ id ∧ id ≤ 9223372036854775807) {k : Nat} {x : REn} (hf : fndI es id = (k : Int)) (hx : es[k]? = some x) (hn : look (alR es) id = some x.ls) :
    Calls Try.prog 33 #[.pointer (some ⟨d, 0, none⟩), .agg #[.slice A n c, .int .i64 (last : Int)], .int .i64 id] w fun e w' => e = .returned (.bool true) ∧ Below w.heap.size w w' := by
  obtain ⟨f1, f2, f3, _, f5, f6⟩ := some_facts hn
  have hcl : x.ls.length ≤ 4096 := by
    obtain ⟨m, _, hm⟩ := (look_some hA.ok.so).1 hn
    exact (hA.ok.cl _ hm).1
  have hfind : ∀ W, Below w.heap.size w W → Calls Try.prog 46 #[.agg #[.slice A n c, .int .i64 (last : Int)], .int .i64 id] W fun e w' => e = .returned (.int .i64 (k : Int)) ∧ Below W.heap.size W w' := fun W hW => by
    have := rfind_ok (last := (last : Int)) (hR.below hB hW) (Nat.le_trans hB hW.size) id
    rwa [hf] at this
  have hget : ∀ W, Below w.heap.size w W → Calls Try.prog 17 #[.pointer (some ⟨d, 0, none⟩), .int .i64 id] W (GotA W x.ls 0) := fun W hW => by
    have := get_arena (hA.new hW) id hid
    rwa [f1, f2] at this
  have hlen : ∀ W, Below w.heap.size w W → Calls Try.prog 18 #[.pointer (some ⟨d, 0, none⟩), .int .i64 id] W fun r w' => r = .returned (.tuple #[.int .i64 (x.ls.length : Int), .int .i64 0]) ∧ Below W.heap.size W w' := fun W hW => by
    have := len_arena (hA.new hW) id hid
    rwa [f1, f2] at this
  have hhas : ∀ W, Below w.heap.size w W → Calls Try.prog 21 #[.pointer (some ⟨d, 0, none⟩), .int .i64 id] W fun r w' => r = .returned (.bool true) ∧ Below W.heap.size W w' := fun W hW => by
    have := has_arena (hA.new hW) id hid
    rwa [f3] at this
  have hlit : ∀ (W : World) (i y e : Int), Below w.heap.size w W → litV (alR es) id i = y ∧ litE (alR es) id i = e → Calls Try.prog 19 #[.pointer (some ⟨d, 0, none⟩), .int .i64 id, .int .i64 i] W fun r w' => r = .returned (.tuple #[.int .i64 y, .int .i64 e]) ∧ Below W.heap.size W w' := fun W i y e hW he => by
    have := lit_arena (hA.new hW) id i hid
    rwa [he.1, he.2] at this
  have hkn : k < n := by have := (List.getElem?_eq_some_iff.1 hx).1; have := hR.len; omega
  have hent : ∀ W, Below w.heap.size w W → ∃ ad : Addr, A = some ad ∧ W.cell? ⟨(ad.add (k * 2)).block, (ad.add (k * 2)).off + 1, none⟩ = some (.slice x.A x.ls.length x.c) := fun W hW => by
    obtain ⟨ad, x', h1, _, h3, _, h5⟩ := (hR.below hB hW).at_ hkn
    rw [hx] at h3
    cases h3
    exact ⟨ad, h1, h5⟩
  have hlt := hR.ls x (List.mem_of_getElem? hx)
  have hxr : ∀ W, Below w.heap.size w W → Reads W W.heap.size 1 x.A x.ls.length (lits x.ls) := fun W hW => (hlt.1.below (hW.mono hB)).more (Nat.le_trans hB hW.size)
  obtain ⟨m, hm⟩ : ∃ m, m = x.ls.length := ⟨_, rfl⟩
  have hk0 : 0 ≤ (k : Int) := by omega
  have hk1 : ¬ (k : Int) < 0 := by omega
  have hk2 : (k : Int) < (n : Int) := by omega
  rw [← hm] at hlen hent hxr hcl f6
  unfold GotA at hget
  rw [← hm] at hget
  replace hfind := Lib.hid hfind
  replace hget := Lib.hid hget
  replace hlen := Lib.hid hlen
  replace hhas := Lib.hid hhas
  replace hlit := Lib.hid hlit
  replace hent := Lib.hid hent
  replace hxr := Lib.hid hxr
  replace f5 := Lib.hid f5
  replace f6 := Lib.hid f6
  have hm' := Lib.hid hm
  clear f1 f2 f3 hA hR hf hn hid hx hlt hm
  have hW := (Below.refl _ w).alloc (Nat.le_refl _) (.cells #[.slice A n c, .int .i64 (last : Int)] 64)
  have k4 := Blk.new w 64 #[.slice A n c, .int .i64 (last : Int)]
  go_enter Try.func33, Try.ntmps33
  go_upto_region 1 with (fail)
  generalize w.alloc (.cells #[.slice A n c, .int .i64 (last : Int)] 64) = W at *
  obtain ⟨ad, rfl, _⟩ := hent.out _ (Below.refl _ _)
  have hent2 : ∀ W, Below w.heap.size w W → W.cell? ⟨(ad.add (k * 2)).block, (ad.add (k * 2)).off + 1, none⟩ = some (.slice x.A m x.c) := fun W hW => by
    obtain ⟨ad2, h1, h2⟩ := hent.out W hW
    cases h1
    exact h2
  replace hent2 := Lib.hid hent2
  clear hent
  go_wp2_with (first
    | (go_at_call 17; refine (hget.out _ hW).mono ?_; rintro e W2 ⟨A7, c7, rfl, hown7, hB2⟩; have hW2 := hW.trans (hB2.mono hW.size))
    | (go_at_call 18; refine (hlen.out _ hW2).mono ?_; rintro e W3 ⟨rfl, hB3⟩; have hW3 := hW2.trans (hB3.mono hW2.size); have k4' := (k4.below hB2 k4.lt).below hB3 (k4.below hB2 k4.lt).lt; have c0 := k4'.cell 0; have c1 := k4'.cell 1; simp only [List.getElem?_toArray, List.getElem?_cons_zero, List.getElem?_cons_succ] at c0 c1)
    | (go_at_call 46; refine (hfind.out _ hW3).mono ?_; rintro e W4 ⟨rfl, hB4⟩; have hW4 := hW3.trans (hB4.mono hW3.size))
    | (go_at_call 21; refine (hhas.out _ hW4).mono ?_; rintro e W5 ⟨rfl, hB5⟩; have hW5 := hW4.trans (hB5.mono hW4.size); have k5 := (k4'.below hB4 k4'.lt).below hB5 (k4'.below hB4 k4'.lt).lt; have e0 := k5.cell 0; have q1 := hent2.out _ hW5; simp only [List.getElem?_toArray, List.getElem?_cons_zero, List.getElem?_cons_succ] at e0)
    | (go_at_call 32; refine (ints_ok A7 m c7 W5.heap.size x.ls (Reads.of_own (row_new (row_new (row_new hown7 hB3) hB4) hB5)) (Nat.le_refl _) (by omega)).mono ?_; rintro e W6 ⟨A8, c8, rfl, hown8, hB6⟩; have hW6 := hW5.trans (hB6.mono hW5.size))
    | (go_at_call 28; refine (equal_ints A8 x.A m c8 x.c x.ls _ _ (Reads.of_own hown8) (hxr.out _ hW6) (by omega)).mono ?_; rintro e W7 ⟨rfl, hB7⟩; have hW7 := hW6.trans (hB7.mono hW6.size)))
  go_loopw [15] (fun i wr => ∃ v : Int, i = .int .i64 v ∧ -1 ≤ v ∧ v ≤ (m : Int) + 1 ∧ Below w.heap.size w wr) (fun i _ => ((m : Int) + 2 - intOf i).toNat)
  case atStart => exact ⟨-1, rfl, by omega, by omega, hW7⟩
  case round =>
    obtain ⟨v, rfl, hv1, hv2, hBr⟩ := hrel
    by_cases hvm : v ≤ (m : Int)
    · have t1 : v + 1 ≤ (m : Int) + 1 := by omega
      by_cases hneg : v < 0
      · have hle := hlit.out wr v 0 2 hBr (f6.out v (.inl hneg))
        replace hle := Lib.hid hle
        go_wp2_with (go_at_call 19; refine hle.out.mono ?_; rintro e W8 ⟨rfl, hB8⟩; have hW8 := hBr.trans (hB8.mono hBr.size))
        go_roundw
        case rel => exact ⟨v + 1, by go_num, by omega, by omega, hW8⟩
        case measure => simp [intOf]; omega
      · by_cases hem : v = (m : Int)
        · have hle := hlit.out wr v 0 2 hBr (f6.out v (.inr (by omega)))
          have heb : (v == (m : Int)) = true := by simpa using hem
          replace hle := Lib.hid hle
          have hem' := Lib.hid hem
          clear hem
          go_wp2_with (go_at_call 19; refine hle.out.mono ?_; rintro e W8 ⟨rfl, hB8⟩; have hW8 := hBr.trans (hB8.mono hBr.size))
          go_roundw
          case rel => exact ⟨v + 1, by go_num, by omega, by omega, hW8⟩
          case measure => simp [intOf]; omega
        · obtain ⟨j, rfl⟩ := Int.eq_ofNat_of_zero_le (show 0 ≤ v by omega)
          have hjm : j < m := by omega
          obtain ⟨ax, y, hax, _, hy, q0⟩ := reads_num (hxr.out wr hBr) hjm
          have hle := hlit.out wr j y 0 hBr (f5.out j y hy)
          have hq : ∀ W, Below w.heap.size w W → W.cell? (ax.add j) = some (.int .i64 y) := fun W hW => by
            obtain ⟨ax2, y2, hax2, _, hy2, q2⟩ := reads_num (hxr.out W hW) hjm
            rw [hax] at hax2
            cases hax2
            rw [hy] at hy2
            cases hy2
            exact q2
          rw [hax]
          have u1 : ((j : Int) == (m : Int)) = false := by simp; omega
          have u2 : (j : Int) < (m : Int) := by omega
          have u3 : 0 ≤ (j : Int) := by omega
          replace hle := Lib.hid hle
          replace hq := Lib.hid hq
          clear hy hax q0 hem
          go_wp2_with (go_at_call 19; refine hle.out.mono ?_; rintro e W8 ⟨rfl, hB8⟩; have hW8 := hBr.trans (hB8.mono hBr.size); have q8 := hq.out W8 hW8)
          go_roundw
          case rel => exact ⟨(j : Int) + 1, by go_num, by omega, by omega, hW8⟩
          case measure => simp [intOf]; omega
    · go_wp2
      go_ret
      exact ⟨rfl, hBr⟩
theorem asks_ok (hA : Arena w base d fp (alR es) last) (hR : RefR w B A n c es) (hB : B ≤ w.heap.size) (hid : -9223372036854775808 ≤ id ∧ id ≤ 9223372036854775807) :
    Calls Try.prog 33 #[.pointer (some ⟨d, 0, none⟩), .agg #[.slice A n c, .int .i64 (last : Int)], .int .i64 id] w fun e w' => e = .returned (.bool true) ∧ Below w.heap.size w w' := by
  rcases fndI_cases hA.ok.so id with ⟨h1, h2⟩ | ⟨k, x, h1, h2, h3, h4⟩
  · exact asks_no hA hR hB hid h1 h2
  · exact asks_yes hA hR hB hid h1 h2 h4
end
end Go.Proofs.Ytlcfgpkokaiogaa
