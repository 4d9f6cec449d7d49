/- Arenas, plain: where a number is. -/
import Derived.Test.YtlcfgpkokaiogaaAPl
namespace Go.Proofs.Ytlcfgpkokaiogaa
open Go Go.RowKit
set_option linter.unusedVariables false
set_option linter.unusedSimpArgs false
/-- The index of the first entry whose number is at least a number. -/
def atI (es : List En) (id : Int) : Nat := es.countP fun e => decide ((e.id : Int) < id)
theorem atI_le (es : List En) (id : Int) : atI es id ≤ es.length := List.countP_le_length
theorem atI_is {es : List En} {id : Int} {i : Nat} (hi : i ≤ es.length) (h1 : ∀ (k : Nat) (e : En), es[k]? = some e → k < i → (e.id : Int) < id) (h2 : ∀ (k : Nat) (e : En), es[k]? = some e → i ≤ k → id ≤ e.id) : atI es id = i := by
  have hs : es = es.take i ++ es.drop i := (List.take_append_drop i es).symm
  unfold atI
  rw [hs, List.countP_append]
  have e1 : (es.take i).countP (fun e => decide ((e.id : Int) < id)) = (es.take i).length := by
    rw [List.countP_eq_length]
    intro e he
    obtain ⟨k, hk⟩ := List.mem_iff_getElem?.1 he
    rw [List.getElem?_take] at hk
    split at hk
    · have := h1 k e hk (by assumption)
      simpa using this
    · cases hk
  have e2 : (es.drop i).countP (fun e => decide ((e.id : Int) < id)) = 0 := by
    rw [List.countP_eq_zero]
    intro e he
    obtain ⟨k, hk⟩ := List.mem_iff_getElem?.1 he
    rw [List.getElem?_drop] at hk
    have := h2 _ e hk (by omega)
    simp; omega
  rw [e1, e2, List.length_take]
  omega
theorem sorted_le {es : List En} (h : Sorted es) {i j : Nat} {a b : En} (hi : es[i]? = some a) (hj : es[j]? = some b) (he : i ≤ j) : a.id ≤ b.id := by
  rcases Nat.lt_or_ge i j with h1 | h1
  · exact Nat.le_of_lt (sorted_lt h hi hj h1)
  · obtain rfl : i = j := by omega
    rw [hi] at hj
    cases hj
    exact Nat.le_refl _
theorem atI_lt {es : List En} (h : Sorted es) {id : Int} {k : Nat} {e : En} (hk : es[k]? = some e) : k < atI es id ↔ (e.id : Int) < id := by
  obtain ⟨i, hi⟩ : ∃ i, i = atI es id := ⟨_, rfl⟩
  -- the entries below are a prefix
  have hp : ∀ n, n ≤ es.length → (∀ (j : Nat) (x : En), es[j]? = some x → j < n → (x.id : Int) < id) → n ≤ atI es id := by
    intro n hn hall
    unfold atI
    have hs : es = es.take n ++ es.drop n := (List.take_append_drop n es).symm
    rw [hs, List.countP_append]
    have e1 : (es.take n).countP (fun e => decide ((e.id : Int) < id)) = (es.take n).length := by
      rw [List.countP_eq_length]
      intro e he
      obtain ⟨j, hj⟩ := List.mem_iff_getElem?.1 he
      rw [List.getElem?_take] at hj
      split at hj
      · have := hall j e hj (by assumption)
        simpa using this
      · cases hj
    rw [e1, List.length_take]
    omega
  have hq : ∀ n, n ≤ es.length → (∀ (j : Nat) (x : En), es[j]? = some x → n ≤ j → id ≤ x.id) → atI es id ≤ n := by
    intro n hn hall
    unfold atI
    have hs : es = es.take n ++ es.drop n := (List.take_append_drop n es).symm
    rw [hs, List.countP_append]
    have e2 : (es.drop n).countP (fun e => decide ((e.id : Int) < id)) = 0 := by
      rw [List.countP_eq_zero]
      intro e he
      obtain ⟨j, hj⟩ := List.mem_iff_getElem?.1 he
      rw [List.getElem?_drop] at hj
      have := hall _ e hj (by omega)
      simp; omega
    have e1 : (es.take n).countP (fun e => decide ((e.id : Int) < id)) ≤ (es.take n).length := List.countP_le_length
    rw [List.length_take] at e1
    rw [e2]
    omega
  have hlt := (List.getElem?_eq_some_iff.1 hk).1
  constructor
  · intro hki
    refine Int.not_le.1 (fun hc => ?_)
    have := hq k (by omega) (fun j x hj hkj => by have := sorted_le h hk hj hkj; omega)
    omega
  · intro hid
    have := hp (k + 1) (by omega) (fun j x hj hjk => by have := sorted_le h hj hk (by omega); omega)
    omega
theorem atI_self {es : List En} (h : Sorted es) {k : Nat} {e : En} (hk : es[k]? = some e) : atI es e.id = k := by
  refine atI_is (by have := (List.getElem?_eq_some_iff.1 hk).1; omega) (fun j x hj hjk => ?_) (fun j x hj hkj => ?_)
  · have := sorted_lt h hj hk hjk; omega
  · have := sorted_le h hk hj hkj; omega
theorem look_ent {es : List En} (h : Sorted es) {id : Int} {l : List Int} (hl : look (als es) id = some l) : ∃ (k : Nat) (e : En), es[k]? = some e ∧ (e.id : Int) = id ∧ e.gone = false ∧ e.ls = l := by
  obtain ⟨n, rfl, hm⟩ := (look_some (als_sorted h)).1 hl
  obtain ⟨e, he, hg, heq⟩ := mem_als.1 hm
  obtain ⟨k, hk⟩ := List.mem_iff_getElem?.1 he
  cases heq
  exact ⟨k, e, hk, rfl, hg, rfl⟩
theorem look_gone {es : List En} (h : Sorted es) {k : Nat} {e : En} (hk : es[k]? = some e) (hn : look (als es) e.id = none) : e.gone = true := by
  cases hg : e.gone with
  | true => rfl
  | false => rw [look_at h hk hg] at hn; cases hn
/-- The first entry that is there from a number on. -/
def nxt (al : List (Nat × List Int)) (id : Int) : Option (Nat × List Int) := al.find? fun c => decide (id < (c.1 : Int))
theorem nxt_none {al : List (Nat × List Int)} {id : Int} : nxt al id = none ↔ ∀ c ∈ al, (c.1 : Int) ≤ id := by
  simp [nxt]
theorem nxt_some {al : List (Nat × List Int)} (h : al.Pairwise (fun a b => a.1 < b.1)) {id : Int} {c : Nat × List Int} : nxt al id = some c ↔ c ∈ al ∧ id < c.1 ∧ ∀ d ∈ al, id < (d.1 : Int) → c.1 ≤ d.1 := by
  induction al with
  | nil => simp [nxt]
  | cons x al ih =>
    have hx := List.pairwise_cons.1 h
    have ih := ih hx.2
    unfold nxt at ih ⊢
    rw [List.find?_cons]
    by_cases hi : id < (x.1 : Int)
    · simp only [hi, decide_true]
      constructor
      · intro he
        cases he
        refine ⟨by simp, hi, fun d hd _ => ?_⟩
        rcases List.mem_cons.1 hd with rfl | hd
        · exact Nat.le_refl _
        · exact Nat.le_of_lt (hx.1 d hd)
      · rintro ⟨h1, h2, h3⟩
        rcases List.mem_cons.1 h1 with rfl | h1
        · rfl
        · have := hx.1 c h1
          have := h3 x (by simp) hi
          omega
    · simp only [hi, decide_false]
      rw [ih]
      constructor
      · rintro ⟨h1, h2, h3⟩
        refine ⟨by simp [h1], h2, fun d hd hid => ?_⟩
        rcases List.mem_cons.1 hd with rfl | hd
        · exact absurd hid hi
        · exact h3 d hd hid
      · rintro ⟨h1, h2, h3⟩
        rcases List.mem_cons.1 h1 with rfl | h1
        · exact absurd h2 hi
        · exact ⟨h1, h2, fun d hd hid => h3 d (by simp [hd]) hid⟩
end Go.Proofs.Ytlcfgpkokaiogaa
