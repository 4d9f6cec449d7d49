/- Arenas: plays. -/
import Derived.Test.YtlcfgpkokaiogaaRfE
import Derived.Deep.DeepCutAuto
namespace Go.Proofs.Ytlcfgpkokaiogaa
open Go Go.RowKit Go.Shelf
set_option linter.unusedVariables false
set_option linter.unusedSimpArgs false
set_option maxHeartbeats 4000000
/-- A call that is played. -/
structure PA where
  kd : Int
  id : Int
  A : Option Addr
  c : Nat
  ls : List Int
def encPA (x : PA) : List Value := [.int .u8 x.kd, .int .i64 x.id, .slice x.A x.ls.length x.c]
def encPs (l : List PA) : List Value := l.flatMap encPA
theorem encPs_len (l : List PA) : (encPs l).length = l.length * 3 := by
  induction l with
  | nil => rfl
  | cons x es ih => show (encPA x ++ encPs es).length = _; rw [List.length_append, ih]; simp [encPA]; omega
theorem encPs_at (es : List PA) : ∀ (k j : Nat) (x : PA), es[k]? = some x → j < 3 → (encPs es)[k * 3 + j]? = (encPA x)[j]? := by
  induction es with
  | nil => intro k j x h; cases h
  | cons y es ih =>
    intro k j x h hj
    cases k with
    | zero =>
      simp at h
      subst h
      show (encPA y ++ encPs es)[0 * 3 + j]? = _
      rw [List.getElem?_append_left (by simp [encPA]; omega)]
      simp
    | succ k =>
      show (encPA y ++ encPs es)[_]? = _
      rw [List.getElem?_append_right (by simp [encPA]; omega)]
      have := ih k j x (by simpa using h) hj
      rw [← this]
      congr 1
      simp [encPA]; omega
structure PAOk (w : World) (B : Nat) (x : PA) : Prop where
  rd : Reads w B 1 x.A x.ls.length (lits x.ls)
  cap : x.ls.length ≤ x.c ∧ x.c ≤ 9223372036854775807
  kd : 0 ≤ x.kd ∧ x.kd ≤ 255
  id : -9223372036854775808 ≤ x.id ∧ x.id ≤ 9223372036854775807
  few : x.ls.length ≤ 3000
theorem reads_pa {w : World} {B n k : Nat} {A : Option Addr} {l : List PA} (h : Reads w B 3 A n (encPs l)) (hk : k < n) :
    ∃ ad x, A = some ad ∧ ad.block < B ∧ l[k]? = some x ∧ w.cell? (ad.add (k * 3)) = some (.int .u8 x.kd) ∧ w.cell? ⟨(ad.add (k * 3)).block, (ad.add (k * 3)).off + 1, none⟩ = some (.int .i64 x.id) ∧ w.cell? ⟨(ad.add (k * 3)).block, (ad.add (k * 3)).off + 2, none⟩ = some (.slice x.A x.ls.length x.c) := by
  have hl : l.length = n := by have := h.1; rw [encPs_len] at this; omega
  obtain ⟨ad, e, hb, hc⟩ := h.2 (by omega)
  have hx : l[k]? = some (l[k]'(by omega)) := List.getElem?_eq_getElem (by omega)
  generalize l[k]'(by omega) = x at hx
  have h1 : ∀ j, j ≠ 0 → (⟨(ad.add (k * 3)).block, (ad.add (k * 3)).off + j, none⟩ : Addr) = ad.add (k * 3 + j) := by
    intro j hj
    rw [← add_of_add]
    unfold Addr.add
    rw [if_neg hj]
  refine ⟨ad, x, e, hb, hx, ?_, ?_, ?_⟩
  · exact hc (k * 3 + 0) _ (by have := encPs_at l k 0 x hx (by omega); simpa [encPA] using this)
  · rw [h1 1 (by omega)]; exact hc (k * 3 + 1) _ (by have := encPs_at l k 1 x hx (by omega); simpa [encPA] using this)
  · rw [h1 2 (by omega)]; exact hc (k * 3 + 2) _ (by have := encPs_at l k 2 x hx (by omega); simpa [encPA] using this)
/-- An arena of the reference, in a box. -/
def refT (b : Nat) (A : Option Addr) (n c : Nat) (es : List REn) (last : Nat) : Thing where
  bs := b :: (Value.slice A n c).ownBlock.toList
  P W := Blk W b 64 #[.slice A n c, .int .i64 (last : Int)] ∧ W.ownsRow 0 85 2 (.slice A n c) n (encR es)
  keep fp W W' ho hn h := ⟨h.1.only ho (hn b (by simp)), own_only h.2 ho (fun k hk => hn k (by simp [hk]))⟩
  ck B W W' k h := ⟨h.1.ck k, own_ck h.2 k⟩
  cells W k o h hk ho := by
    rcases List.mem_cons.1 hk with rfl | hk
    · exact blk_cells h.1 ho
    · exact own_cells h.2 (by simpa using hk) ho
theorem Run.refSet {W0 W W' : World} {F : List Nat} {ts : List Thing} {d la b B n c n' c' last last' : Nat} {A A' : Option Addr} {es es' : List REn} {al : List (Nat × List Int)} (h : Run W0 F (refT b A n c es last :: ts) d al la W) (hb : Below W.heap.size W W') (hR : RefR W' B A' n' c' es')
    (hk : ∀ k, (Value.slice A' n' c').ownBlock = some k → (Value.slice A n c).ownBlock = some k ∨ W.heap.size ≤ k) : Run W0 F (refT b A' n' c' es' last' :: ts) d al la ((W'.setCell ⟨b, 0, none⟩ (.slice A' n' c')).setCell ⟨b, 1, none⟩ (.int .i64 (last' : Int))) := by
  obtain ⟨hblk, hrow⟩ : Blk W b 64 #[.slice A n c, .int .i64 (last : Int)] ∧ W.ownsRow 0 85 2 (.slice A n c) n (encR es) := h.thing (t := refT b A n c es last) (by simp)
  have hb' := hblk.below hb hblk.lt
  have hne := own_blk_ne hR.row hb' (by decide)
  refine h.change (t' := refT b A' n' c' es' last') (((only_of_below _ hb).setCell (.inl (by simp [refT])) _).setCell (.inl (by simp [refT])) _) ⟨?_, ?_⟩ (fun k hk' => ?_)
  · have := (hb'.set_ 0 (.slice A' n' c')).set_ 1 (.int .i64 (last' : Int))
    simpa using this
  · exact own_only hR.row (((Only.refl [b] W').setCell (p := ⟨b, 0, none⟩) (.inl (by simp)) (.slice A' n' c')).setCell (p := ⟨b, 1, none⟩) (.inl (by simp)) (.int .i64 (last' : Int))) (by intro k hk2 hm; simp at hm; subst hm; exact hne hk2)
  · rcases List.mem_cons.1 hk' with rfl | hk'
    · exact .inl (by simp [refT])
    · have hk2 : (Value.slice A' n' c').ownBlock = some k := by simpa using hk'
      rcases hk k hk2 with h1 | h1
      · exact .inl (by simp [refT, h1])
      · refine .inr ⟨h1, ?_⟩
        have := (hR.row.lt k hk2).2
        simpa using this
theorem wrap_b (x : Int) : -9223372036854775808 ≤ IntKind.i64.wrap x ∧ IntKind.i64.wrap x ≤ 9223372036854775807 := by
  simp [IntKind.wrap, IntKind.bits, IntKind.signed]
  omega
/-- The state of a play. -/
def PS (w : World) (B b d : Nat) (ts : List Thing) (k : Nat) (W : World) : Prop := ∃ A n c es last, Run w [] (refT b A n c es last :: ts) d (alR es) last W ∧ es.length = n ∧ n ≤ k ∧ RLits w B es
section
variable {w W : World} {B b d n c k last : Nat} {ts : List Thing} {A : Option Addr} {es : List REn}
theorem Run.refR (h : Run w [] (refT b A n c es last :: ts) d (alR es) last W) (hl : es.length = n) (hn : n ≤ 1048576) (hL : RLits w B es) (hB : B ≤ w.heap.size) : RefR W B A n c es :=
  ⟨(h.thing (t := refT b A n c es last) (by simp)).2, hl, hL.below (h.below.mono hB), hn⟩
theorem Run.asks (h : Run w [] (refT b A n c es last :: ts) d (alR es) last W) (hl : es.length = n) (hn : n ≤ 1048576) (hL : RLits w B es) (hB : B ≤ w.heap.size) (id : Int) (hid : -9223372036854775808 ≤ id ∧ id ≤ 9223372036854775807) :
    Calls Try.prog 33 #[.pointer (some ⟨d, 0, none⟩), .agg #[.slice A n c, .int .i64 (last : Int)], .int .i64 id] W fun e w' => e = .returned (.bool true) ∧ Run w [] (refT b A n c es last :: ts) d (alR es) last w' := by
  have h0 := h
  obtain ⟨fpa, hF⟩ := h0
  exact (asks_ok hF.ar (h.refR hl hn hL hB) (Nat.le_trans hB h.below.size) hid).mono fun e w' hh => ⟨hh.1, h.new hh.2⟩
theorem Run.same (h : Run w [] (refT b A n c es last :: ts) d (alR es) last W) (hl : es.length = n) (hn : n ≤ 1048576) (hL : RLits w B es) (hB : B ≤ w.heap.size) :
    Calls Try.prog 34 #[.pointer (some ⟨d, 0, none⟩), .agg #[.slice A n c, .int .i64 (last : Int)]] W fun e w' => e = .returned (.bool true) ∧ Run w [] (refT b A n c es last :: ts) d (alR es) last w' := by
  have h0 := h
  obtain ⟨fpa, hF⟩ := h0
  exact (same_ok hF.ar (h.refR hl hn hL hB) (Nat.le_trans hB h.below.size)).mono fun e w' hh => ⟨hh.1, h.new hh.2⟩
end
end Go.Proofs.Ytlcfgpkokaiogaa
