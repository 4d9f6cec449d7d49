/- Trails: law 7: calls, one after the other, beside the reference. -/
import Derived.Test.YtkedepkhcbhcdaaTrlZ
import Derived.Test.YtkedepkhcbhcdaaRefS
import Derived.Test.YtkedepkhcbhcdaaRefL
import Derived.Deep.CutBlock
namespace Go.Proofs.Ytkedepkhcbhcdaa
open Go Go.RowKit Go.Shelf
set_option linter.unusedVariables false
set_option linter.unusedSimpArgs false
set_option maxHeartbeats 4000000
/-- An act: kind, number, reason. -/
abbrev ActV := Int × Int × Int
def encA (a : ActV) : List Value := [.int .u8 a.1, .int .i64 a.2.1, .int .i64 a.2.2]
def encAs (l : List ActV) : List Value := l.flatMap encA
def ActV.Ok (a : ActV) : Prop := 0 ≤ a.1 ∧ a.1 ≤ 255 ∧ (-9223372036854775808 ≤ a.2.1 ∧ a.2.1 ≤ 9223372036854775807) ∧ -9223372036854775808 ≤ a.2.2 ∧ a.2.2 ≤ 9223372036854775807
theorem encAs_len (l : List ActV) : (encAs l).length = l.length * 3 := by
  induction l with
  | nil => rfl
  | cons x es ih => show (encA x ++ encAs es).length = _; rw [List.length_append, ih]; simp [encA]; omega
theorem encAs_at (es : List ActV) : ∀ (k j : Nat) (x : ActV), es[k]? = some x → j < 3 → (encAs es)[k * 3 + j]? = (encA x)[j]? := by
  induction es with
  | nil => intro k j x h; cases h
  | cons y es ih =>
    intro k j x h hj
    cases k with
    | zero =>
      simp at h
      subst h
      show (encA y ++ encAs es)[0 * 3 + j]? = _
      rw [List.getElem?_append_left (by simp [encA]; omega)]
      simp
    | succ k =>
      show (encA y ++ encAs es)[_]? = _
      rw [List.getElem?_append_right (by simp [encA]; omega)]
      have := ih k j x (by simpa using h) hj
      rw [← this]
      congr 1
      simp [encA]; omega
theorem reads_act {w : World} {B n k : Nat} {A : Option Addr} {l : List ActV} (h : Reads w B 3 A n (encAs l)) (hk : k < n) :
    ∃ ad x, A = some ad ∧ ad.block < B ∧ l[k]? = some x ∧ w.cell? (ad.add (k * 3)) = some (.int .u8 x.1) ∧ w.cell? ⟨(ad.add (k * 3)).block, (ad.add (k * 3)).off + 1, none⟩ = some (.int .i64 x.2.1) ∧ w.cell? ⟨(ad.add (k * 3)).block, (ad.add (k * 3)).off + 2, none⟩ = some (.int .i64 x.2.2) := by
  have hl : l.length = n := by have := h.1; rw [encAs_len] at this; omega
  obtain ⟨ad, e, hb, hc⟩ := h.2 (by omega)
  have hx : l[k]? = some (l[k]'(by omega)) := List.getElem?_eq_getElem (by omega)
  generalize l[k]'(by omega) = x at hx
  have h1 : ∀ j, j ≠ 0 → (⟨(ad.add (k * 3)).block, (ad.add (k * 3)).off + j, none⟩ : Addr) = ad.add (k * 3 + j) := by
    intro j hj
    rw [← add_of_add]
    unfold Addr.add
    rw [if_neg hj]
  refine ⟨ad, x, e, hb, hx, ?_, ?_, ?_⟩
  · exact hc (k * 3 + 0) _ (by have := encAs_at l k 0 x hx (by omega); simpa [encA] using this)
  · rw [h1 1 (by decide)]
    exact hc (k * 3 + 1) _ (by have := encAs_at l k 1 x hx (by omega); simpa [encA] using this)
  · rw [h1 2 (by decide)]
    exact hc (k * 3 + 2) _ (by have := encAs_at l k 2 x hx (by omega); simpa [encA] using this)
/-- What an act makes of a state, and what it answers. -/
def stepD (D : Trl) (a : ActV) : Trl := if a.1 % 8 < 5 then asgD D a.2.1 a.2.2 else if a.1 % 8 < 7 then pshD D else bckD D a.2.1
/-- A trail, and that of the reference in its box. -/
structure PI (w : World) (d G : Nat) (fp : List Nat) (D' D : Trl) (v : Value) (W : World) : Prop where
  t : Trail W w.heap.size d fp D'
  x : RefX (G :: fp) W v D
  g : G ∉ fp
  below : Below w.heap.size w W
  low : w.heap.size ≤ G
section
variable {w W W' : World} {d G : Nat} {fp : List Nat} {D' D D2 : Trl} {v v' : Value}
theorem PI.new (h : PI w d G fp D' D v W) (hb : Below W.heap.size W W') : PI w d G fp D' D v W' := ⟨h.t.new hb, h.x.new hb, h.g, below_and h.below hb, h.low⟩
theorem PI.fpl (h : PI w d G fp D' D v W) (hG : G < W.heap.size) : ∀ k ∈ G :: fp, k < W.heap.size := by
  intro k hk
  rcases List.mem_cons.1 hk with rfl | hk
  · exact hG
  · exact (h.t.ge k hk).2
/-- A call of the trail. -/
theorem PI.wrote {r : Value} {e : Ending} (h : PI w d G fp D' D v W) (hG : G < W.heap.size) (hw : Wrote W w.heap.size d fp D2 r e W') : e = .returned r ∧ ∃ fp', PI w d G fp' D2 D v W' ∧ Only fp W W' := by
  obtain ⟨he, fp', h1, h2, h3⟩ := hw
  refine ⟨he, fp', ⟨h1, fun W2 ho => h.x W2 ((h3.more (fun k hk _ => List.mem_cons_of_mem _ hk)).then ho (fun k hk hl => ?_)), fun hm => ?_, h.below.trans (h3.below h.below.size (fun k hk => (h.t.ge k hk).1)), h.low⟩, h3⟩
  · rcases List.mem_cons.1 hk with rfl | hk
    · exact List.mem_cons_self
    · rcases h2 k hk with h4 | h4
      · exact List.mem_cons_of_mem _ h4
      · omega
  · rcases h2 G hm with h4 | h4
    · exact h.g h4
    · omega
theorem RefX.shape {fp : List Nat} (h : RefX fp W v D) : ∃ Ai ci As cs, v = .agg #[.int .i64 D.n, .int .i64 ((D.st.length : Int) - 1), .slice Ai D.its.length ci, .slice As D.st.length cs] := by
  obtain ⟨Ai, ci, As, cs, e, _⟩ := h.ref
  exact ⟨_, _, _, _, e⟩
/-- The reference's answer is kept in its box. -/
theorem PI.store {a0 a1 a2 a3 : Value} (h : PI w d G fp D' D v W) (hx : RefX (G :: fp) W (.agg #[a0, a1, a2, a3]) D2) :
    PI w d G fp D' D2 (.agg #[a0, a1, a2, a3]) ((((W.setCell ⟨G, 0, none⟩ a0).setCell ⟨G, 1, none⟩ a1).setCell ⟨G, 2, none⟩ a2).setCell ⟨G, 3, none⟩ a3) := by
  have hO : Only [G] W ((((W.setCell ⟨G, 0, none⟩ a0).setCell ⟨G, 1, none⟩ a1).setCell ⟨G, 2, none⟩ a2).setCell ⟨G, 3, none⟩ a3) :=
    ((((Only.refl _ W).setCell (.inl (by simp)) _).setCell (.inl (by simp)) _).setCell (.inl (by simp)) _).setCell (.inl (by simp)) _
  refine ⟨h.t.keep hO (fun k hk hm => ?_), hx.only (hO.more (fun k hk _ => ?_)), h.g, h.below.trans (hO.below h.below.size (fun k hk => ?_)), h.low⟩
  · rw [List.mem_singleton.1 hm] at hk
    exact h.g hk
  · rw [List.mem_singleton.1 hk]
    exact List.mem_cons_self
  · rw [List.mem_singleton.1 hk]
    exact h.low
theorem blk_store {a0 a1 a2 a3 b0 b1 b2 b3 : Value} (h : Blk W G 82 #[b0, b1, b2, b3]) : Blk ((((W.setCell ⟨G, 0, none⟩ a0).setCell ⟨G, 1, none⟩ a1).setCell ⟨G, 2, none⟩ a2).setCell ⟨G, 3, none⟩ a3) G 82 #[a0, a1, a2, a3] := by
  have := (((h.set_ 0 a0).set_ 1 a1).set_ 2 a2).set_ 3 a3
  simpa using this
theorem len_asg (D : Trl) (l r : Int) : (asgD D l r).its.length ≤ D.its.length + 1 ∧ (asgD D l r).st.length = D.st.length := by
  unfold asgD asg
  split <;> simp
theorem len_psh (D : Trl) : (pshD D).its.length = D.its.length ∧ (pshD D).st.length ≤ D.st.length + 1 := by
  unfold pshD psh
  split <;> simp
theorem len_bck (D : Trl) (k : Int) : (bckD D k).its.length ≤ D.its.length ∧ (bckD D k).st.length ≤ D.st.length := by
  unfold bckD bck
  split
  · split
    · simp; omega
    · exact ⟨Nat.le_refl _, Nat.le_refl _⟩
  · exact ⟨Nat.le_refl _, Nat.le_refl _⟩
end
/-- Between two calls. -/
def PK (w : World) (d G n k : Nat) (W : World) : Prop := ∃ fp D Ai ci As cs, PI w d G fp D D (.agg #[.int .i64 D.n, .int .i64 ((D.st.length : Int) - 1), .slice Ai D.its.length ci, .slice As D.st.length cs]) W ∧ Blk W G 82 #[.int .i64 D.n, .int .i64 ((D.st.length : Int) - 1), .slice Ai D.its.length ci, .slice As D.st.length cs] ∧ D.its.length ≤ k ∧ D.st.length ≤ k + 1
theorem PK.new {w W W' : World} {d G n k : Nat} (h : PK w d G n k W) (hb : Below W.heap.size W W') : PK w d G n k W' := by
  obtain ⟨fp, D, Ai, ci, As, cs, h1, h2, h3⟩ := h
  exact ⟨fp, D, Ai, ci, As, cs, h1.new hb, h2.below hb h2.lt, h3⟩
theorem same_pk {w W : World} {d G : Nat} {fp : List Nat} {D : Trl} {v : Value} (h : PI w d G fp D D v W) (hi : D.its.length ≤ 150) (hs : D.st.length ≤ 151) : Calls Try.prog 46 #[.pointer (some ⟨d, 0, none⟩), v] W fun e w' => e = .returned (.bool true) ∧ Below W.heap.size W w' :=
  same_ok h.t h.x.ref (by omega) (by omega) (fun W2 hb => lists_ok (h.t.new hb) (h.x.ref.new hb) (by omega) (by omega))
set_option maxRecDepth 100000 in
theorem plays_ok (vars : Int) (A : Option Addr) (n c B : Nat) (l : List ActV) (w : World) (hrd : Reads w B 3 A n (encAs l)) (hB : B ≤ w.heap.size) (hn : n ≤ 150) (hc : n ≤ c) (hl : ∀ x ∈ l, ActV.Ok x) :
    Calls Try.prog 30 #[.int .i64 vars, .slice A n c] w fun e w' => e = .returned (.bool true) ∧ Below w.heap.size w w' := by
  by_cases hbad : vars < 0 ∨ 1048576 < vars
  · have hnew := new_bad vars w hbad
    replace hnew := Lib.hid hnew
    by_cases h1 : vars < 0
    · clear hbad
      go_enter Try.func30, Try.ntmps30
      go_wp2_with (go_at_call 10; (with_reducible refine hnew.out.mono ?_); rintro e w' ⟨rfl, rfl⟩)
      go_ret
      exact ⟨rfl, Below.refl _ _⟩
    · have h2 : 1048576 < vars := hbad.resolve_left h1
      clear hbad
      go_enter Try.func30, Try.ntmps30
      go_wp2_with (go_at_call 10; (with_reducible refine hnew.out.mono ?_); rintro e w' ⟨rfl, rfl⟩)
      go_ret
      exact ⟨rfl, Below.refl _ _⟩
  · obtain ⟨v, rfl⟩ : ∃ v : Nat, vars = (v : Int) := ⟨vars.toNat, by omega⟩
    have hv : v ≤ 1048576 := by omega
    have h1 : ¬ (v : Int) < 0 := by omega
    have h2 : ¬ 1048576 < (v : Int) := by omega
    have hnew := new_n (w := w) v hv
    replace hnew := Lib.hid hnew
    have hni : (n : Int) ≤ 150 := by omega
    clear hbad
    go_enter Try.func30, Try.ntmps30
    go_wp2_with (first
      | (go_at_call 10; (with_reducible refine hnew.out.mono ?_); rintro e W1 ⟨d, fp0, rfl, hT0, hB0⟩; have h42 := rnewX v W1 fp0 (fun k hk => (hT0.ge k hk).2); replace h42 := Lib.hid h42; clear hnew)
      | (go_at_call 42; (with_reducible refine h42.out.mono ?_); rintro e W2 ⟨v2, rfl, hX2, hB2⟩; obtain ⟨Ai, ci, As, cs, rfl⟩ := hX2.shape; clear h42))
    have hPK : PK w d W2.heap.size v 0 (W2.alloc (.cells #[.int .i64 (newT v).n, .int .i64 (((newT v).st.length : Int) - 1), .slice Ai (newT v).its.length ci, .slice As (newT v).st.length cs] 82)) := by
      have hBn : Below W2.heap.size W2 (W2.alloc (.cells #[.int .i64 (newT v).n, .int .i64 (((newT v).st.length : Int) - 1), .slice Ai (newT v).its.length ci, .slice As (newT v).st.length cs] 82)) := (Below.refl _ _).alloc (Nat.le_refl _) _
      have hT2 := (hT0.new hB2).new hBn
      refine ⟨fp0, newT v, Ai, ci, As, cs, ⟨hT2, (hX2.less (fun k hk hl => ?_)).new hBn, fun hm => ?_, below_and (below_and hB0 hB2) hBn, (below_and hB0 hB2).size⟩, Blk.new W2 82 _, by simp [newT], by simp [newT]⟩
      · rcases List.mem_cons.1 hk with rfl | hk
        · omega
        · exact hk
      · have := (hT0.ge _ hm).2
        have := hB2.size
        omega
    generalize W2.alloc (.cells #[.int .i64 (newT v).n, .int .i64 (((newT v).st.length : Int) - 1), .slice Ai (newT v).its.length ci, .slice As (newT v).st.length cs] 82) = W3 at *
    generalize W2.heap.size = G at *
    clear hT0 hB0 hX2 hB2
    clear W1 W2
    go_loopw [39] (fun i wr => ∃ k : Nat, k ≤ n ∧ i = .int .i64 k ∧ PK w d G v k wr) (fun i _ => n - (intOf i).toNat)
    case atStart => exact ⟨0, by omega, rfl, hPK⟩
    case round =>
      obtain ⟨k, hk, rfl, hP⟩ := hrel
      clear hPK
      clear W3
      by_cases hlt : k < n
      · obtain ⟨fp, D, Ai, ci, As, cs, hpi0, hbk0, hi, hs⟩ := hP
        obtain ⟨ad, ⟨kd, l0, r0⟩, hA, hadb, hx, q0, q1, q2⟩ := reads_act (hrd.below (hpi0.below.mono hB)) hlt
        subst hA
        obtain ⟨hk0, hk1, hlb, hr0, hr1⟩ := hl _ (List.mem_of_getElem? hx)
        dsimp only at q0 q1 q2 hk0 hk1 hlb hr0 hr1
        obtain ⟨hl0, hl1⟩ := hlb
        have u1 : (k : Int) < (n : Int) := by omega
        have u0 : 0 ≤ (k : Int) := by omega
        obtain ⟨q, hq⟩ : ∃ q, kd % 8 = q := ⟨_, rfl⟩
        have hq0 : 0 ≤ q := by omega
        have hq1 : q ≤ 7 := by omega
        go_upto_block 2 with (fail)
        have hBn : Below wr.heap.size wr (wr.alloc (.cells #[.int .u8 kd, .int .i64 l0, .int .i64 r0] 59)) := (Below.refl _ _).alloc (Nat.le_refl _) _
        have hpi := hpi0.new hBn
        have hbk := hbk0.below hBn hbk0.lt
        have hb9 := Blk.new wr 59 #[.int .u8 kd, .int .i64 l0, .int .i64 r0]
        have h9 : ∀ i ∈ fp, i ≠ wr.heap.size := fun i hm => by have := (hpi0.t.ge _ hm).2; omega
        have hGw := hbk0.lt
        rw [hq]
        replace hq := Lib.hid hq
        generalize wr.alloc (.cells #[.int .u8 kd, .int .i64 l0, .int .i64 r0] 59) = W3 at *
        generalize wr.heap.size = g9 at *
        clear hpi0 hbk0 hBn q0 q1 q2 hx
        clear wr
        go_cut [6, 10] from 44 to 82 (fun b6 b10 wx => ∃ E : Int, b6 = .int .i64 E ∧ b10 = .int .i64 E ∧ PK w d G v (k + 1) wx)
        case first =>
          have hG := hbk.lt
          have hok := hpi.t.ok
          have y0 := hb9.cell 0
          have y1 := hb9.cell 1
          have y2 := hb9.cell 2
          have x0 := hbk.cell 0
          have x1 := hbk.cell 1
          have x2 := hbk.cell 2
          have x3 := hbk.cell 3
          simp only [List.getElem?_toArray, List.getElem?_cons_succ, List.getElem?_cons_zero] at x0 x1 x2 x3 y0 y1 y2
          by_cases hq5 : q < 5
          · have h13 := (assign_trail hpi.t l0 r0).mono (fun e W' hw => hpi.wrote hG hw)
            replace h13 := Lib.hid h13
            go_wp2_with (first
              | (go_at_call 13; (with_reducible refine h13.out.mono ?_); rintro e W4 ⟨rfl, fp4, hp4, ho4⟩; have hbk4 := hbk.only ho4 hpi.g; have hb94 := hb9.only ho4 (fun hm => h9 _ hm rfl); skip; have hG4 := hbk4.lt; clear x0 x1 x2 x3 y0 y1 y2; have x0 := hbk4.cell 0; have x1 := hbk4.cell 1; have x2 := hbk4.cell 2; have x3 := hbk4.cell 3; simp only [List.getElem?_toArray, List.getElem?_cons_succ, List.getElem?_cons_zero] at x0 x1 x2 x3; have y0 := hb94.cell 0; have y1 := hb94.cell 1; have y2 := hb94.cell 2; simp only [List.getElem?_toArray, List.getElem?_cons_succ, List.getElem?_cons_zero] at y0 y1 y2; have h43 := rassign hp4.x (hp4.fpl hG4) hok (by omega) (by omega) l0 r0; replace h43 := Lib.hid h43; clear h13)
              | (go_at_call 43; (with_reducible refine h43.out.mono ?_); rintro e W5 ⟨v5, rfl, hx5, hB5⟩; clear h43; obtain ⟨A5, c5, S5, t5, rfl⟩ := hx5.shape; have hp5 := hp4.new hB5; have hbk5 := hbk4.below hB5 hbk4.lt; clear x0 x1 x2 x3 y0 y1 y2; have x0 := hbk5.cell 0; have x1 := hbk5.cell 1; have x2 := hbk5.cell 2; have x3 := hbk5.cell 3; simp only [List.getElem?_toArray, List.getElem?_cons_succ, List.getElem?_cons_zero] at x0 x1 x2 x3; have f0 := hbk5.frozen 0; have f1 := hbk5.frozen 1; have f2 := hbk5.frozen 2; have f3 := hbk5.frozen 3))
            go_meet
            exact ⟨_, rfl, rfl, fp4, _, A5, c5, S5, t5, hp5.store hx5, blk_store hbk5, by have := len_asg D l0 r0; omega, by have := len_asg D l0 r0; omega⟩
          · by_cases hq7 : q < 7
            · have h13 := (push_n (D' := psh D) hpi.t (he := show pshE D = 0 from if_neg (by omega)) (hd := if_neg (by omega))).mono (fun e W' hw => hpi.wrote hG hw)
              replace h13 := Lib.hid h13
              go_wp2_with (first
                | (go_at_call 12; (with_reducible refine h13.out.mono ?_); rintro e W4 ⟨rfl, fp4, hp4, ho4⟩; have hbk4 := hbk.only ho4 hpi.g; have hb94 := hb9.only ho4 (fun hm => h9 _ hm rfl); skip; have hG4 := hbk4.lt; clear x0 x1 x2 x3 y0 y1 y2; have x0 := hbk4.cell 0; have x1 := hbk4.cell 1; have x2 := hbk4.cell 2; have x3 := hbk4.cell 3; simp only [List.getElem?_toArray, List.getElem?_cons_succ, List.getElem?_cons_zero] at x0 x1 x2 x3; have y0 := hb94.cell 0; have y1 := hb94.cell 1; have y2 := hb94.cell 2; simp only [List.getElem?_toArray, List.getElem?_cons_succ, List.getElem?_cons_zero] at y0 y1 y2; have h43 := rpush hp4.x (hp4.fpl hG4) (by omega) (by omega); replace h43 := Lib.hid h43; clear h13)
                | (go_at_call 44; (with_reducible refine h43.out.mono ?_); rintro e W5 ⟨v5, rfl, hx5, hB5⟩; clear h43; obtain ⟨A5, c5, S5, t5, rfl⟩ := hx5.shape; have hp5 := hp4.new hB5; have hbk5 := hbk4.below hB5 hbk4.lt; clear x0 x1 x2 x3 y0 y1 y2; have x0 := hbk5.cell 0; have x1 := hbk5.cell 1; have x2 := hbk5.cell 2; have x3 := hbk5.cell 3; simp only [List.getElem?_toArray, List.getElem?_cons_succ, List.getElem?_cons_zero] at x0 x1 x2 x3; have f0 := hbk5.frozen 0; have f1 := hbk5.frozen 1; have f2 := hbk5.frozen 2; have f3 := hbk5.frozen 3))
              go_meet
              exact ⟨_, rfl, rfl, fp4, _, A5, c5, S5, t5, hp5.store hx5, blk_store hbk5, by simp [psh]; omega, by simp [psh]; omega⟩
            · have h13 := (back_trail hpi.t l0).mono (fun e W' hw => hpi.wrote hG hw)
              replace h13 := Lib.hid h13
              go_wp2_with (first
                | (go_at_call 15; (with_reducible refine h13.out.mono ?_); rintro e W4 ⟨rfl, fp4, hp4, ho4⟩; have hbk4 := hbk.only ho4 hpi.g; have hb94 := hb9.only ho4 (fun hm => h9 _ hm rfl); skip; have hG4 := hbk4.lt; clear x0 x1 x2 x3 y0 y1 y2; have x0 := hbk4.cell 0; have x1 := hbk4.cell 1; have x2 := hbk4.cell 2; have x3 := hbk4.cell 3; simp only [List.getElem?_toArray, List.getElem?_cons_succ, List.getElem?_cons_zero] at x0 x1 x2 x3; have y0 := hb94.cell 0; have y1 := hb94.cell 1; have y2 := hb94.cell 2; simp only [List.getElem?_toArray, List.getElem?_cons_succ, List.getElem?_cons_zero] at y0 y1 y2; have h43 := rback hp4.x (hp4.fpl hG4) hok (by omega) (by omega) l0; replace h43 := Lib.hid h43; clear h13)
                | (go_at_call 45; (with_reducible refine h43.out.mono ?_); rintro e W5 ⟨v5, rfl, hx5, hB5⟩; clear h43; obtain ⟨A5, c5, S5, t5, rfl⟩ := hx5.shape; have hp5 := hp4.new hB5; have hbk5 := hbk4.below hB5 hbk4.lt; clear x0 x1 x2 x3 y0 y1 y2; have x0 := hbk5.cell 0; have x1 := hbk5.cell 1; have x2 := hbk5.cell 2; have x3 := hbk5.cell 3; simp only [List.getElem?_toArray, List.getElem?_cons_succ, List.getElem?_cons_zero] at x0 x1 x2 x3; have f0 := hbk5.frozen 0; have f1 := hbk5.frozen 1; have f2 := hbk5.frozen 2; have f3 := hbk5.frozen 3))
              go_meet
              exact ⟨_, rfl, rfl, fp4, _, A5, c5, S5, t5, hp5.store hx5, blk_store hbk5, by have := len_bck D l0; omega, by have := len_bck D l0; omega⟩
        case rest =>
          obtain ⟨E, rfl, rfl, hPn⟩ := hcut
          obtain ⟨fp7, D7, A7, c7, S7, t7, hpi7, hbk7, hi7, hs7⟩ := hPn
          have h46 := same_pk hpi7 (by omega) (by omega)
          replace h46 := Lib.hid h46
          have x0 := hbk7.cell 0
          have x1 := hbk7.cell 1
          have x2 := hbk7.cell 2
          have x3 := hbk7.cell 3
          simp only [List.getElem?_toArray, List.getElem?_cons_succ, List.getElem?_cons_zero] at x0 x1 x2 x3
          have hPn : PK w d G v (k + 1) wc := ⟨fp7, D7, A7, c7, S7, t7, hpi7, hbk7, hi7, hs7⟩
          by_cases hk3 : (k : Int) % 4 = 3
          · have hkb : ((k : Int) % 4 == 3) = true := by simp [hk3]
            clear hk3
            clear hpi hbk hb9 h9 hq
            go_wp2_with (first
              | (refine ⟨trivial, ?_⟩; go_at_call 46; (with_reducible refine h46.out.mono ?_); rintro e W8 ⟨rfl, hB8⟩)
              | (go_at_call 46; (with_reducible refine h46.out.mono ?_); rintro e W8 ⟨rfl, hB8⟩))
            go_roundw
            case rel => exact ⟨k + 1, by omega, by go_num, hPn.new hB8⟩
            case measure => simp [intOf]; omega
          · have hkb : ((k : Int) % 4 == 3) = false := by simp [hk3]
            clear hk3
            clear hpi hbk hb9 h9 hq
            go_wp2_with fail
            go_roundw
            case rel => exact ⟨k + 1, by omega, by go_num, hPn⟩
            case measure => simp [intOf]; omega
      · obtain rfl : k = n := by omega
        obtain ⟨fp7, D7, A7, c7, S7, t7, hpi7, hbk7, hi7, hs7⟩ := hP
        have h46 := same_pk hpi7 (by omega) (by omega)
        replace h46 := Lib.hid h46
        have x0 := hbk7.cell 0
        have x1 := hbk7.cell 1
        have x2 := hbk7.cell 2
        have x3 := hbk7.cell 3
        simp only [List.getElem?_toArray, List.getElem?_cons_succ, List.getElem?_cons_zero] at x0 x1 x2 x3
        go_wp2_with (go_at_call 46; (with_reducible refine h46.out.mono ?_); rintro e W8 ⟨rfl, hB8⟩)
        go_ret
        exact ⟨rfl, below_and hpi7.below hB8⟩
end Go.Proofs.Ytkedepkhcbhcdaa
