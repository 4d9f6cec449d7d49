/- Arenas: at, find, Has. -/
import Derived.Test.YtlcfgpkokaiogaaArA
namespace Go.Proofs.Ytlcfgpkokaiogaa
open Go Go.RowKit
set_option linter.unusedVariables false
set_option linter.unusedSimpArgs false
set_option maxHeartbeats 4000000
section
variable {w : World} {base d : Nat} {vs va : Value} {es : List En} {last : Nat}
/-- The cells of an entry. -/
theorem ent_at {A : Option Addr} {c : Nat} (h : w.ownsRow base 76 4 (.slice A es.length c) es.length (encN 0 es)) {k : Nat} {e : En} (hk : es[k]? = some e) :
    ∃ g, A = some ⟨g, 0, none⟩ ∧ k < es.length ∧ w.cell? ⟨g, k * 4, none⟩ = some (.int .i64 (off es k : Int)) ∧ w.cell? ⟨g, k * 4 + 1, none⟩ = some (.int .i64 ((off es k + e.ls.length : Nat) : Int)) ∧ w.cell? ⟨g, k * 4 + 2, none⟩ = some (.int .i64 (e.id : Int)) ∧ w.cell? ⟨g, k * 4 + 3, none⟩ = some (.bool e.gone) := by
  have hlt := (List.getElem?_eq_some_iff.1 hk).1
  obtain ⟨g, cap, hv, _, _⟩ := h.form (by omega)
  have hA : A = some ⟨g, 0, none⟩ := by injection hv
  subst hA
  have e' := fun j hj => (h.cellAt (g := g) (k * 4 + j) (by omega)).trans (encN_at es k j e hk hj)
  exact ⟨g, rfl, hlt, by simpa [cells4] using e' 0 (by omega), by simpa [cells4] using e' 1 (by omega), by simpa [cells4] using e' 2 (by omega), by simpa [cells4] using e' 3 (by omega)⟩
/-- What a search answers. -/
def Found (n : Nat) (e : Ending) : Prop := ∃ b, e = .returned (.tuple #[.int .i64 n, .bool b])
theorem found_mk {n m : Nat} {b : Bool} (h : n = m) : Found m (.returned (.tuple #[.int .i64 n, .bool b])) := ⟨b, by rw [h]⟩
set_option maxRecDepth 100000 in
theorem search_ok {A : Option Addr} {c : Nat} (h : w.ownsRow base 76 4 (.slice A es.length c) es.length (encN 0 es)) (hs : Sorted es) (hf : es.length ≤ 1073741824) (hi : ∀ e ∈ es, e.id ≤ 1073741824) (id : Int) (hb : -4294967296 ≤ id ∧ id ≤ 4294967296) :
    Calls Try.prog 50 #[.slice A es.length c, .int .i64 id, .func (.func 51) #[] #[]] w fun e w' => Found (atI es id) e ∧ Below w.heap.size w w' := by
  obtain ⟨b1, b2⟩ := hb
  obtain ⟨n, hn⟩ : ∃ n, n = es.length := ⟨_, rfl⟩
  rw [← hn] at h hf ⊢
  have hn' := Lib.hid hn
  clear hn
  replace hs := Lib.hid hs
  replace hi := Lib.hid hi
  go_enter Try.func50, Try.ntmps50
  go_wp2
  go_loopw [9, 10] (fun i j wr => ∃ (i0 j0 : Nat), i = .int .i64 i0 ∧ j = .int .i64 j0 ∧ i0 ≤ j0 ∧ j0 ≤ n ∧ (∀ (k : Nat) (e : En), es[k]? = some e → k < i0 → (e.id : Int) < id) ∧ (∀ (k : Nat) (e : En), es[k]? = some e → j0 ≤ k → id ≤ e.id) ∧ Below w.heap.size w wr) (fun i j _ => (intOf j - intOf i).toNat)
  case atStart => exact ⟨0, n, rfl, rfl, Nat.zero_le _, Nat.le_refl _, fun k e hk hl => by omega, fun k e hk hl => by have := (List.getElem?_eq_some_iff.1 hk).1; have := hn'.out; omega, Below.refl _ _⟩
  case round =>
    obtain ⟨i0, j0, rfl, rfl, hij, hjn, h1, h2, hB⟩ := hrel
    have hrow : wr.ownsRow base 76 4 (.slice A es.length c) es.length (encN 0 es) := by
      have := own_only h (only_of_below [] hB) (by simp)
      rwa [hn'.out] at this
    by_cases hlt : i0 < j0
    · have hm1 : i0 ≤ (i0 + j0) / 2 := by omega
      have hm2 : (i0 + j0) / 2 < j0 := by omega
      have hmn : (i0 + j0) / 2 < es.length := by have := hn'.out; omega
      obtain ⟨e, he⟩ : ∃ e, es[(i0 + j0) / 2]? = some e := ⟨_, List.getElem?_eq_getElem hmn⟩
      obtain ⟨g, rfl, _, q0, q1, q2, q3⟩ := ent_at hrow he
      have heid := hi.out e (List.mem_of_getElem? he)
      have t1 : (i0 : Int) < (j0 : Int) := by omega
      have t2 : ((i0 : Int) + (j0 : Int)) / 2 < (n : Int) := by omega
      have t3 : 0 ≤ ((i0 : Int) + (j0 : Int)) / 2 := by omega
      have he' := Lib.hid he
      have hs1 : ∀ (e' : En), (e'.id : Int) - id < 0 → e' = e → ∀ (k : Nat) (x : En), es[k]? = some x → k < (i0 + j0) / 2 + 1 → (x.id : Int) < id := by
        rintro e' hlt rfl k x hk hkl
        have := sorted_le hs.out hk he'.out (by omega)
        omega
      have hs2 : ∀ (e' : En), ¬ (e'.id : Int) - id < 0 → e' = e → ∀ (k : Nat) (x : En), es[k]? = some x → (i0 + j0) / 2 ≤ k → id ≤ x.id := by
        rintro e' hlt rfl k x hk hkl
        have := sorted_le hs.out he'.out hk (by omega)
        omega
      clear he hrow
      replace hs1 := Lib.hid hs1
      replace hs2 := Lib.hid hs2
      replace h1 := Lib.hid h1
      replace h2 := Lib.hid h2
      go_wp2_with (go_at_call 51; refine (cmp_any _ _ _ _ _ (by omega) (by omega) _).mono ?_; rintro r w1 ⟨rfl, hB1⟩)
      all_goals
        go_roundw
        case rel =>
          first
            | exact ⟨(i0 + j0) / 2 + 1, j0, by go_num, rfl, by omega, hjn, hs1.out e (by assumption) rfl, h2.out, hB.trans (hB1.mono hB.size)⟩
            | exact ⟨i0, (i0 + j0) / 2, rfl, by go_num, by omega, by omega, h1.out, hs2.out e (by omega) rfl, hB.trans (hB1.mono hB.size)⟩
        case measure => simp [intOf]; omega
    · obtain rfl : i0 = j0 := by omega
      have hat : atI es id = i0 := atI_is (by have := hn'.out; omega) h1 h2
      have t1 : ¬ (i0 : Int) < (i0 : Int) := by omega
      replace hat := Lib.hid hat
      by_cases hin : i0 < n
      · have hmn : i0 < es.length := by have := hn'.out; omega
        obtain ⟨e, he⟩ : ∃ e, es[i0]? = some e := ⟨_, List.getElem?_eq_getElem hmn⟩
        obtain ⟨g, rfl, _, q0, q1, q2, q3⟩ := ent_at hrow he
        have heid := hi.out e (List.mem_of_getElem? he)
        have t2 : (i0 : Int) < (n : Int) := by omega
        have t3 : 0 ≤ (i0 : Int) := by omega
        clear he hrow
        replace h1 := Lib.hid h1
        replace h2 := Lib.hid h2
        go_wp2_with (go_at_call 51; refine (cmp_any _ _ _ _ _ (by omega) (by omega) _).mono ?_; rintro r w1 ⟨rfl, hB1⟩)
        go_ret2
        exact ⟨found_mk hat.out.symm, hB.trans (hB1.mono hB.size)⟩
      · have t2 : ¬ (i0 : Int) < (n : Int) := by omega
        replace h1 := Lib.hid h1
        replace h2 := Lib.hid h2
        clear hrow
        go_wp2_with fail
        go_ret2
        exact ⟨found_mk hat.out.symm, hB⟩
theorem at_ok (h : Arm w base d vs va es last) (id : Int) (hb : -4294967296 ≤ id ∧ id ≤ 4294967296) : Calls Try.prog 43 #[.pointer (some ⟨d, 0, none⟩), .int .i64 id] w fun e w' => e = .returned (.int .i64 (atI es id : Int)) ∧ Below w.heap.size w w' := by
  have c1 := h.c1
  obtain ⟨A, c, rfl⟩ := own_form h.ha
  have hs := search_ok h.ha h.ok.so h.few (fun e he => by have := h.ok.id1 e he; have := h.ok.la; omega) id hb
  replace hs := Lib.hid hs
  replace h := Lib.hid h
  go_enter Try.func43, Try.ntmps43
  go_wp2_with (go_at_call 50; refine hs.out.mono ?_; rintro e w' ⟨⟨b, rfl⟩, hB⟩)
  go_ret
  exact ⟨rfl, hB⟩
theorem find_yes (h : Arm w base d vs va es last) {k : Nat} {e : En} (hk : es[k]? = some e) (hg : e.gone = false) : Calls Try.prog 37 #[.pointer (some ⟨d, 0, none⟩), .int .i64 (e.id : Int)] w fun r w' => r = .returned (.int .i64 (k : Int)) ∧ Below w.heap.size w w' := by
  have hid := h.ok.id1 e (List.mem_of_getElem? hk)
  have hla := h.ok.la
  have hat := at_ok h e.id (by omega)
  rw [atI_self h.ok.so hk] at hat
  have hA := h
  obtain ⟨A, c, rfl⟩ := own_form h.ha
  have hlt := (List.getElem?_eq_some_iff.1 hk).1
  have t0 : ¬ (e.id : Int) < 1 := by omega
  have t1 : ¬ 1073741824 < (e.id : Int) := by omega
  have t2 : ((k : Int) == (es.length : Int)) = false := by simp; omega
  have t3 : (k : Int) < (es.length : Int) := by omega
  have t4 : 0 ≤ (k : Int) := by omega
  have hk' := Lib.hid hk
  clear hk
  replace hat := Lib.hid hat
  have h' := Lib.hid h
  clear h hA
  go_enter Try.func37, Try.ntmps37
  go_wp2_with (go_at_call 43; refine hat.out.mono ?_; rintro r w' ⟨rfl, hB⟩; have h2 := h'.out.new hB; have c1 := h2.c1; obtain ⟨g, rfl, _, q0, q1, q2, q3⟩ := ent_at h2.ha hk'.out; rw [hg] at q3; replace h2 := Lib.hid h2)
  go_ret
  exact ⟨rfl, hB⟩
theorem find_no (h : Arm w base d vs va es last) (id : Int) (hn : look (als es) id = none) (hb : -9223372036854775808 ≤ id ∧ id ≤ 9223372036854775807) : Calls Try.prog 37 #[.pointer (some ⟨d, 0, none⟩), .int .i64 id] w fun r w' => r = .returned (.int .i64 (-1)) ∧ Below w.heap.size w w' := by
  by_cases hr : id < 1
  · clear hn h
    go_enter Try.func37, Try.ntmps37
    go_wp2_with fail
    go_ret
    exact ⟨rfl, Below.refl _ _⟩
  by_cases hr2 : 1073741824 < id
  · clear hn h
    go_enter Try.func37, Try.ntmps37
    go_wp2_with fail
    go_ret
    exact ⟨rfl, Below.refl _ _⟩
  have hat := at_ok h id (by omega)
  obtain ⟨k, hkk⟩ : ∃ k, k = atI es id := ⟨_, rfl⟩
  have hkl := atI_le es id
  rw [← hkk] at hat hkl
  have hA := h
  obtain ⟨A, c, rfl⟩ := own_form h.ha
  replace hat := Lib.hid hat
  have h' := Lib.hid hA
  have hso := h.ok.so
  clear hA h
  by_cases hke : k = es.length
  · have t2 : ((k : Int) == (es.length : Int)) = true := by simp; omega
    clear hkk hn hso hkl
    replace hke := Lib.hid hke
    go_enter Try.func37, Try.ntmps37
    go_wp2_with (go_at_call 43; refine hat.out.mono ?_; rintro r w' ⟨rfl, hB⟩; have h2 := h'.out.new hB; have c1 := h2.c1; replace h2 := Lib.hid h2)
    go_ret
    exact ⟨rfl, hB⟩
  · obtain ⟨e, hk⟩ : ∃ e, es[k]? = some e := ⟨_, List.getElem?_eq_getElem (by omega)⟩
    have hid : ((e.id : Int) != id) = false → e.gone = true := fun he => by
      obtain rfl : id = (e.id : Int) := by simp at he; omega
      exact look_gone hso hk hn
    have t2 : ((k : Int) == (es.length : Int)) = false := by simp; omega
    have t3 : (k : Int) < (es.length : Int) := by omega
    have t4 : 0 ≤ (k : Int) := by omega
    have hk' := Lib.hid hk
    clear hk hn hkk
    cases hne : ((e.id : Int) != id) with
    | true =>
      clear hid hso hke
      go_enter Try.func37, Try.ntmps37
      go_wp2_with (go_at_call 43; refine hat.out.mono ?_; rintro r w' ⟨rfl, hB⟩; have h2 := h'.out.new hB; have c1 := h2.c1; obtain ⟨g, rfl, _, q0, q1, q2, q3⟩ := ent_at h2.ha hk'.out; replace h2 := Lib.hid h2)
      go_ret
      exact ⟨rfl, hB⟩
    | false =>
      have hg := hid hne
      clear hid hso hke
      go_enter Try.func37, Try.ntmps37
      go_wp2_with (go_at_call 43; refine hat.out.mono ?_; rintro r w' ⟨rfl, hB⟩; have h2 := h'.out.new hB; have c1 := h2.c1; obtain ⟨g, rfl, _, q0, q1, q2, q3⟩ := ent_at h2.ha hk'.out; rw [hg] at q3; replace h2 := Lib.hid h2)
      go_ret
      exact ⟨rfl, hB⟩
/-- Whether there is a clause. -/
def hasA (al : List (Nat × List Int)) (id : Int) : Bool := (look al id).isSome
theorem has_ok (h : Arm w base d vs va es last) (id : Int) (hb : -9223372036854775808 ≤ id ∧ id ≤ 9223372036854775807) : Calls Try.prog 21 #[.pointer (some ⟨d, 0, none⟩), .int .i64 id] w fun r w' => r = .returned (.bool (hasA (als es) id)) ∧ Below w.heap.size w w' := by
  have h' := Lib.hid h
  cases hl : look (als es) id with
  | none =>
    have hv : hasA (als es) id = false := by unfold hasA; rw [hl]; rfl
    have hf := find_no h id hl hb
    clear hl h
    replace hf := Lib.hid hf
    rw [hv]
    go_enter Try.func21, Try.ntmps21
    go_wp2_with (first | (go_at_call 35; refine (is_ok h'.out).mono ?_; rintro e w' ⟨rfl, rfl⟩) | (go_at_call 37; refine hf.out.mono ?_; rintro e w' ⟨rfl, hB⟩))
    go_ret
    exact ⟨rfl, hB⟩
  | some l =>
    have hv : hasA (als es) id = true := by unfold hasA; rw [hl]; rfl
    obtain ⟨k, e, hk, rfl, hg, _⟩ := look_ent h.ok.so hl
    have hf := find_yes h hk hg
    have hke := (List.getElem?_eq_some_iff.1 hk).1
    have := h.few
    have t0 : 0 ≤ (k : Int) := by omega
    clear hl h hk
    replace hf := Lib.hid hf
    rw [hv]
    go_enter Try.func21, Try.ntmps21
    go_wp2_with (first | (go_at_call 35; refine (is_ok h'.out).mono ?_; rintro e w' ⟨rfl, rfl⟩) | (go_at_call 37; refine hf.out.mono ?_; rintro e w' ⟨rfl, hB⟩))
    go_ret
    exact ⟨rfl, hB⟩
end
end Go.Proofs.Ytlcfgpkokaiogaa
