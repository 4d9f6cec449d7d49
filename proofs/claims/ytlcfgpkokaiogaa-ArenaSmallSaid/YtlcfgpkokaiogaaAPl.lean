/- Arenas: the plain state, and its cells. -/
import Derived.Test.YtlcfgpkokaiogaaMem
namespace Go.Proofs.Ytlcfgpkokaiogaa
open Go Go.RowKit
set_option linter.unusedVariables false
set_option linter.unusedSimpArgs false
set_option maxHeartbeats 4000000
/-- An entry: a clause's number, its literals, whether it is gone. -/
structure En where
  id : Nat
  ls : List Int
  gone : Bool
def flat (es : List En) : List Int := es.flatMap En.ls
def encN : Nat → List En → List Value
  | _, [] => []
  | b, e :: es => .int .i64 (b : Int) :: .int .i64 ((b + e.ls.length : Nat) : Int) :: .int .i64 (e.id : Int) :: .bool e.gone :: encN (b + e.ls.length) es
/-- What is there. -/
def als (es : List En) : List (Nat × List Int) := (es.filter fun e => !e.gone).map fun e => (e.id, e.ls)
def usedL (al : List (Nat × List Int)) : Nat := (al.flatMap Prod.snd).length
def lits (l : List Int) : List Value := l.map (Value.int .i64)
def LitOk (x : Int) : Prop := x ≠ 0 ∧ -1048576 ≤ x ∧ x ≤ 1048576
instance (x : Int) : Decidable (LitOk x) := by unfold LitOk; infer_instance
def ClOk (l : List Int) : Prop := l.length ≤ 4096 ∧ ∀ x ∈ l, LitOk x
instance (l : List Int) : Decidable (ClOk l) := by unfold ClOk; infer_instance
def Sorted (es : List En) : Prop := es.Pairwise (fun a b => a.id < b.id)
/-- The bounds of an arena. -/
structure Ok (es : List En) (last : Nat) : Prop where
  so : Sorted es
  id1 : ∀ e ∈ es, 1 ≤ e.id ∧ e.id ≤ last
  cl : ∀ e ∈ es, ClOk e.ls
  la : last ≤ 1073741824
  us : usedL (als es) ≤ 1048576
  held : (flat es).length ≤ 2 * usedL (als es) + 64
  few : es.length ≤ 2 * (als es).length + 64
theorem encN_len (es : List En) : ∀ b, (encN b es).length = es.length * 4 := by
  induction es with
  | nil => intro b; rfl
  | cons e es ih => intro b; simp only [encN, List.length_cons, ih]; omega
theorem encN_one (es : List En) : ∀ b, ∀ u ∈ encN b es, u.oneCell' = true := by
  induction es with
  | nil => intro b u hu; cases hu
  | cons e es ih =>
    intro b u hu
    simp only [encN, List.mem_cons] at hu
    rcases hu with rfl | rfl | rfl | rfl | hu
    · rfl
    · rfl
    · rfl
    · rfl
    · exact ih _ u hu
theorem flat_append (a b : List En) : flat (a ++ b) = flat a ++ flat b := by simp [flat]
theorem encN_append (es fs : List En) : ∀ b, encN b (es ++ fs) = encN b es ++ encN (b + (flat es).length) fs := by
  induction es with
  | nil => intro b; simp [encN, flat]
  | cons e es ih =>
    intro b
    simp only [List.cons_append, encN, ih, flat, List.flatMap_cons, List.length_append]
    rw [show b + e.ls.length + (List.flatMap En.ls es).length = b + (e.ls.length + (List.flatMap En.ls es).length) by omega]
def off (es : List En) (k : Nat) : Nat := (flat (es.take k)).length
def cells4 (b : Nat) (e : En) : List Value := [.int .i64 (b : Int), .int .i64 ((b + e.ls.length : Nat) : Int), .int .i64 (e.id : Int), .bool e.gone]
theorem encN_split (es : List En) (k : Nat) (e : En) (h : es[k]? = some e) (b : Nat) : encN b es = encN b (es.take k) ++ (cells4 (b + off es k) e ++ encN (b + off es k + e.ls.length) (es.drop (k + 1))) := by
  have hlt := (List.getElem?_eq_some_iff.1 h).1
  have he : es = es.take k ++ (e :: es.drop (k + 1)) := by
    have h1 := List.getElem?_eq_some_iff.1 h
    rw [← h1.2, List.getElem_cons_drop, List.take_append_drop]
  conv => lhs; rw [he]
  rw [encN_append]
  rfl
theorem encN_at (es : List En) (k j : Nat) (e : En) (h : es[k]? = some e) (hj : j < 4) : (encN 0 es)[k * 4 + j]? = (cells4 (off es k) e)[j]? := by
  have hlt := (List.getElem?_eq_some_iff.1 h).1
  rw [encN_split es k e h 0, List.getElem?_append_right (by rw [encN_len, List.length_take]; omega), List.getElem?_append_left (by rw [encN_len, List.length_take]; simp [cells4]; omega), encN_len, List.length_take, Nat.zero_add]
  congr 1
  omega
theorem flat_split (es : List En) (k : Nat) (e : En) (h : es[k]? = some e) : flat es = flat (es.take k) ++ (e.ls ++ flat (es.drop (k + 1))) := by
  have he : es = es.take k ++ (e :: es.drop (k + 1)) := by
    have h1 := List.getElem?_eq_some_iff.1 h
    rw [← h1.2, List.getElem_cons_drop, List.take_append_drop]
  conv => lhs; rw [he]
  rw [flat_append]
  simp [flat]
theorem off_le (es : List En) (k : Nat) (e : En) (h : es[k]? = some e) : off es k + e.ls.length ≤ (flat es).length := by
  rw [flat_split es k e h]
  simp [off]
theorem flat_at (es : List En) (k j : Nat) (e : En) (h : es[k]? = some e) (hj : j < e.ls.length) : (flat es)[off es k + j]? = e.ls[j]? := by
  rw [flat_split es k e h, List.getElem?_append_right (by simp [off]), List.getElem?_append_left (by simp [off]; omega)]
  congr 1
  simp [off]
/-- The clause with a number. -/
def look (al : List (Nat × List Int)) (id : Int) : Option (List Int) := (al.find? fun c => (c.1 : Int) == id).map Prod.snd
theorem sorted_inj {es : List En} (h : Sorted es) {i j : Nat} {a b : En} (hi : es[i]? = some a) (hj : es[j]? = some b) (he : a.id = b.id) : i = j := by
  obtain ⟨h1, rfl⟩ := List.getElem?_eq_some_iff.1 hi
  obtain ⟨h2, rfl⟩ := List.getElem?_eq_some_iff.1 hj
  rcases Nat.lt_trichotomy i j with h3 | h3 | h3
  · have := List.pairwise_iff_getElem.1 h i j h1 h2 h3; omega
  · exact h3
  · have := List.pairwise_iff_getElem.1 h j i h2 h1 h3; omega
theorem sorted_lt {es : List En} (h : Sorted es) {i j : Nat} {a b : En} (hi : es[i]? = some a) (hj : es[j]? = some b) (he : i < j) : a.id < b.id := by
  obtain ⟨h1, rfl⟩ := List.getElem?_eq_some_iff.1 hi
  obtain ⟨h2, rfl⟩ := List.getElem?_eq_some_iff.1 hj
  exact List.pairwise_iff_getElem.1 h i j h1 h2 he
theorem als_sorted {es : List En} (h : Sorted es) : (als es).Pairwise (fun a b => a.1 < b.1) := by
  unfold als
  rw [List.pairwise_map]
  exact h.filter _
theorem mem_als {es : List En} {c : Nat × List Int} : c ∈ als es ↔ ∃ e ∈ es, e.gone = false ∧ (e.id, e.ls) = c := by
  simp [als, and_assoc]
theorem pair_uniq {al : List (Nat × List Int)} (h : al.Pairwise (fun a b => a.1 < b.1)) {a b : Nat × List Int} (ha : a ∈ al) (hb : b ∈ al) (he : a.1 = b.1) : a = b := by
  obtain ⟨i, hi, rfl⟩ := List.getElem_of_mem ha
  obtain ⟨j, hj, rfl⟩ := List.getElem_of_mem hb
  rcases Nat.lt_trichotomy i j with h3 | h3 | h3
  · have := List.pairwise_iff_getElem.1 h i j hi hj h3; omega
  · subst h3; rfl
  · have := List.pairwise_iff_getElem.1 h j i hj hi h3; omega
theorem look_some {al : List (Nat × List Int)} (h : al.Pairwise (fun a b => a.1 < b.1)) {id : Int} {l : List Int} : look al id = some l ↔ ∃ n : Nat, (n : Int) = id ∧ (n, l) ∈ al := by
  constructor
  · intro hl
    simp only [look, Option.map_eq_some_iff] at hl
    obtain ⟨⟨n, l'⟩, hf, rfl⟩ := hl
    exact ⟨n, by simpa using List.find?_some hf, List.mem_of_find?_eq_some hf⟩
  · rintro ⟨n, rfl, hm⟩
    unfold look
    cases hf : al.find? (fun c => (c.1 : Int) == (n : Int)) with
    | none => exact absurd (List.find?_eq_none.1 hf _ hm) (by simp)
    | some c =>
      have h1 := List.find?_some hf
      have h2 := List.mem_of_find?_eq_some hf
      have := pair_uniq h h2 hm (by simp at h1; exact Int.ofNat.inj h1)
      subst this
      rfl
theorem look_none {al : List (Nat × List Int)} {id : Int} : look al id = none ↔ ∀ c ∈ al, (c.1 : Int) ≠ id := by
  simp [look]
theorem look_at {es : List En} (h : Sorted es) {k : Nat} {e : En} (hk : es[k]? = some e) (hg : e.gone = false) : look (als es) e.id = some e.ls :=
  (look_some (als_sorted h)).2 ⟨e.id, rfl, mem_als.2 ⟨e, List.mem_of_getElem? hk, hg, rfl⟩⟩
theorem als_append (a b : List En) : als (a ++ b) = als a ++ als b := by simp [als]
theorem usedL_append (a b : List (Nat × List Int)) : usedL (a ++ b) = usedL a + usedL b := by simp [usedL]
def kept (es : List En) : List En := es.filter fun e => !e.gone
theorem als_kept (es : List En) : als (kept es) = als es := by simp [als, kept, List.filter_filter]
theorem usedL_kept (es : List En) : usedL (als es) = (flat (kept es)).length := by
  simp [usedL, als, kept, flat, List.flatMap_map]
theorem sorted_kept {es : List En} (h : Sorted es) : Sorted (kept es) := h.filter _
theorem kept_len (es : List En) : (als es).length = (kept es).length := by simp [als, kept]
def goneAt (es : List En) (k : Nat) (e : En) : List En := es.set k { e with gone := true }
theorem cut_at {es : List En} {k : Nat} {e : En} (h : es[k]? = some e) : es = es.take k ++ (e :: es.drop (k + 1)) := by
  have h1 := List.getElem?_eq_some_iff.1 h
  rw [← h1.2, List.getElem_cons_drop, List.take_append_drop]
theorem set_at {es : List En} {k : Nat} {e : En} (h : es[k]? = some e) (x : En) : es.set k x = es.take k ++ (x :: es.drop (k + 1)) := by
  have hlt := (List.getElem?_eq_some_iff.1 h).1
  rw [List.set_eq_take_append_cons_drop, if_pos hlt]
theorem flat_gone {es : List En} {k : Nat} {e : En} (h : es[k]? = some e) : flat (goneAt es k e) = flat es := by
  rw [goneAt, set_at h, flat_append]
  conv => rhs; rw [cut_at h, flat_append]
  rfl
theorem encN_gone {es : List En} {k : Nat} {e : En} (h : es[k]? = some e) : encN 0 (goneAt es k e) = (encN 0 es).set (k * 4 + 3) (.bool true) := by
  have hlt := (List.getElem?_eq_some_iff.1 h).1
  rw [goneAt, set_at h, encN_append]
  conv => rhs; rw [cut_at h, encN_append]
  rw [List.set_append_right _ _ (by rw [encN_len, List.length_take]; omega), encN_len, List.length_take, show k * 4 + 3 - min k es.length * 4 = 3 by omega]
  rfl
theorem mem_take_lt {es : List En} (hs : Sorted es) {k : Nat} {e x : En} (h : es[k]? = some e) (hx : x ∈ es.take k) : x.id < e.id := by
  obtain ⟨i, hi, rfl⟩ := List.getElem_of_mem hx
  rw [List.length_take] at hi
  exact sorted_lt hs (i := i) (j := k) (by rw [List.getElem_take]; exact List.getElem?_eq_getElem (by omega)) h (by omega)
theorem mem_drop_lt {es : List En} (hs : Sorted es) {k : Nat} {e x : En} (h : es[k]? = some e) (hx : x ∈ es.drop (k + 1)) : e.id < x.id := by
  obtain ⟨i, hi, rfl⟩ := List.getElem_of_mem hx
  rw [List.length_drop] at hi
  exact sorted_lt hs (i := k) (j := k + 1 + i) h (by rw [List.getElem_drop]; exact List.getElem?_eq_getElem (by omega)) (by omega)
theorem als_cut {es : List En} {k : Nat} {e : En} (h : es[k]? = some e) (hg : e.gone = false) : als es = als (es.take k) ++ ((e.id, e.ls) :: als (es.drop (k + 1))) := by
  conv => lhs; rw [cut_at h, als_append]
  congr 1
  simp [als, hg]
theorem als_gone' {es : List En} {k : Nat} {e : En} (h : es[k]? = some e) : als (goneAt es k e) = als (es.take k) ++ als (es.drop (k + 1)) := by
  rw [goneAt, set_at h, als_append]
  congr 1
def without (al : List (Nat × List Int)) (id : Int) : List (Nat × List Int) := al.filter fun c => decide ((c.1 : Int) ≠ id)
theorem als_gone {es : List En} (hs : Sorted es) {k : Nat} {e : En} (h : es[k]? = some e) (hg : e.gone = false) : als (goneAt es k e) = without (als es) e.id := by
  rw [als_gone' h, als_cut h hg, without, List.filter_append, List.filter_cons, if_neg (by simp)]
  congr 1
  · symm
    rw [List.filter_eq_self]
    intro c hc
    obtain ⟨x, hx, _, rfl⟩ := mem_als.1 hc
    have := mem_take_lt hs h hx
    simp
    omega
  · symm
    rw [List.filter_eq_self]
    intro c hc
    obtain ⟨x, hx, _, rfl⟩ := mem_als.1 hc
    have := mem_drop_lt hs h hx
    simp
    omega
theorem used_gone {es : List En} {k : Nat} {e : En} (h : es[k]? = some e) (hg : e.gone = false) : usedL (als es) = usedL (als (goneAt es k e)) + e.ls.length := by
  rw [als_gone' h, als_cut h hg, usedL_append, usedL_append]
  simp [usedL]
  omega
theorem cnt_gone {es : List En} {k : Nat} {e : En} (h : es[k]? = some e) (hg : e.gone = false) : (als es).length = (als (goneAt es k e)).length + 1 := by
  rw [als_gone' h, als_cut h hg]
  simp
  omega
theorem gone_sorted {es : List En} (hs : Sorted es) {k : Nat} {e : En} (h : es[k]? = some e) : Sorted (goneAt es k e) := by
  unfold Sorted at *
  rw [List.pairwise_iff_getElem] at hs ⊢
  obtain ⟨hk, rfl⟩ := List.getElem?_eq_some_iff.1 h
  intro i j hi hj hij
  simp only [goneAt, List.length_set] at hi hj
  have h0 := hs i j hi hj hij
  simp only [goneAt, List.getElem_set]
  split <;> split <;> first | omega | (subst_vars; simpa using h0) | simpa using h0
theorem mem_gone {es : List En} {k : Nat} {e x : En} (h : es[k]? = some e) (hx : x ∈ goneAt es k e) : ∃ y ∈ es, y.id = x.id ∧ y.ls = x.ls := by
  have := List.mem_or_eq_of_mem_set hx
  rcases this with h1 | rfl
  · exact ⟨x, h1, rfl, rfl⟩
  · exact ⟨e, List.mem_of_getElem? h, rfl, rfl⟩
theorem sorted_few {es : List En} (hs : Sorted es) : ∀ {m : Nat}, (∀ e ∈ es, 1 ≤ e.id ∧ e.id ≤ m) → es.length ≤ m := by
  suffices h : ∀ (k : Nat) (e : En), es[k]? = some e → (∀ e ∈ es, 1 ≤ e.id) → k + 1 ≤ e.id by
    intro m hm
    rcases Nat.eq_zero_or_pos es.length with h0 | h0
    · omega
    · have := h (es.length - 1) (es[es.length - 1]'(by omega)) (List.getElem?_eq_getElem (by omega)) (fun e he => (hm e he).1)
      have := (hm _ (List.getElem_mem (show es.length - 1 < es.length by omega))).2
      omega
  intro k
  induction k with
  | zero => intro e he h1; exact h1 e (List.mem_of_getElem? he)
  | succ k ih =>
    intro e he h1
    have hlt := (List.getElem?_eq_some_iff.1 he).1
    have := ih (es[k]'(by omega)) (List.getElem?_eq_getElem (by omega)) h1
    have := sorted_lt hs (List.getElem?_eq_getElem (show k < es.length by omega)) he (by omega)
    omega
/-- What a new clause answers. -/
def addErr (al : List (Nat × List Int)) (last : Nat) (id : Int) (l : List Int) : Int :=
  if ¬ ClOk l then 20 else if id < 1 ∨ 1073741824 < id ∨ id ≤ last then 30 else if 1048576 < usedL al + l.length then 4 else 0
def addAl (al : List (Nat × List Int)) (last : Nat) (id : Int) (l : List Int) : List (Nat × List Int) := if addErr al last id l = 0 then al ++ [(id.toNat, l)] else al
def addLast (al : List (Nat × List Int)) (last : Nat) (id : Int) (l : List Int) : Nat := if addErr al last id l = 0 then id.toNat else last
def delErr (al : List (Nat × List Int)) (id : Int) : Int := if look al id = none then 30 else 0
theorem Ok.nil : Ok [] 0 := ⟨by simp [Sorted], by simp, by simp, by omega, by simp [usedL, als], by simp [flat], by simp⟩
theorem Ok.add {es : List En} {last id : Nat} (h : Ok es last) {l : List Int} (hl : ClOk l) (h1 : last < id) (h2 : id ≤ 1073741824) (hu : usedL (als es) + l.length ≤ 1048576) : Ok (es ++ [⟨id, l, false⟩]) id := by
  have e1 : als (es ++ [⟨id, l, false⟩]) = als es ++ [(id, l)] := by rw [als_append]; rfl
  have e2 : usedL (als (es ++ [⟨id, l, false⟩])) = usedL (als es) + l.length := by rw [e1, usedL_append]; simp [usedL]
  have e3 : (flat (es ++ [⟨id, l, false⟩])).length = (flat es).length + l.length := by rw [flat_append]; simp [flat]
  have h4 := h.held
  have h5 := h.few
  refine ⟨?_, ?_, ?_, h2, by omega, by omega, by rw [e1]; simp; omega⟩
  · unfold Sorted
    rw [List.pairwise_append]
    refine ⟨h.so, by simp, fun a ha b hb => ?_⟩
    rw [List.mem_singleton] at hb
    subst hb
    have := h.id1 a ha
    show a.id < id
    omega
  · intro e he
    rcases List.mem_append.1 he with he | he
    · have := h.id1 e he; omega
    · rw [List.mem_singleton] at he; subst he; show 1 ≤ id ∧ id ≤ id; omega
  · intro e he
    rcases List.mem_append.1 he with he | he
    · exact h.cl e he
    · rw [List.mem_singleton] at he; subst he; exact hl
/-- An arena behind a Delete: what it has then. -/
theorem Ok.del {es : List En} {last : Nat} (h : Ok es last) {k : Nat} {e : En} (hk : es[k]? = some e) (hg : e.gone = false) (h1 : (flat (goneAt es k e)).length ≤ 2 * usedL (als (goneAt es k e)) + 64) (h2 : (goneAt es k e).length ≤ 2 * (als (goneAt es k e)).length + 64) : Ok (goneAt es k e) last := by
  refine ⟨gone_sorted h.so hk, fun x hx => ?_, fun x hx => ?_, h.la, ?_, h1, h2⟩
  · obtain ⟨y, hy, e1, _⟩ := mem_gone hk hx
    rw [← e1]; exact h.id1 y hy
  · obtain ⟨y, hy, _, e1⟩ := mem_gone hk hx
    rw [← e1]; exact h.cl y hy
  · have := used_gone hk hg; have := h.us; omega
theorem Ok.moved {es : List En} {last : Nat} (h : Ok es last) {k : Nat} {e : En} (hk : es[k]? = some e) (hg : e.gone = false) : Ok (kept (goneAt es k e)) last := by
  refine ⟨sorted_kept (gone_sorted h.so hk), fun x hx => ?_, fun x hx => ?_, h.la, ?_, ?_, ?_⟩
  · obtain ⟨y, hy, e1, _⟩ := mem_gone hk (List.mem_filter.1 hx).1
    rw [← e1]; exact h.id1 y hy
  · obtain ⟨y, hy, _, e1⟩ := mem_gone hk (List.mem_filter.1 hx).1
    rw [← e1]; exact h.cl y hy
  · rw [als_kept]; have := used_gone hk hg; have := h.us; omega
  · rw [als_kept, usedL_kept]; omega
  · rw [als_kept, kept_len]; omega
theorem off_snoc (es : List En) : off es es.length = (flat es).length := by simp [off]
end Go.Proofs.Ytlcfgpkokaiogaa
