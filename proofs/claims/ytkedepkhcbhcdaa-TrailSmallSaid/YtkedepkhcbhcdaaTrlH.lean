/- Trails: the examples; law 3 (reasons). -/
import Derived.Test.YtkedepkhcbhcdaaTrlG
namespace Go.Proofs.Ytkedepkhcbhcdaa
open Go Go.RowKit Go.Shelf
set_option linter.unusedVariables false
set_option linter.unusedSimpArgs false
set_option maxHeartbeats 4000000
section
variable {w : World} {base d : Nat} {fp : List Nat} {D D' : Trl}
theorem assign_n (h : Trail w base d fp D) (l r : Int) {e : Int} (he : asgE D l r = e) (hd : asgD D l r = D') : Calls Try.prog 13 #[.pointer (some ⟨d, 0, none⟩), .int .i64 l, .int .i64 r] w (Wrote w base d fp D' (.int .i64 e)) := by
  have := assign_trail h l r
  rwa [he, hd] at this
theorem push_n (h : Trail w base d fp D) {e : Int} (he : pshE D = e) (hd : pshD D = D') : Calls Try.prog 12 #[.pointer (some ⟨d, 0, none⟩)] w (Wrote w base d fp D' (.int .i64 e)) := by
  have := push_trail h
  rwa [he, hd] at this
theorem back_n (h : Trail w base d fp D) (k : Int) {e : Int} (he : bckE D k = e) (hd : bckD D k = D') : Calls Try.prog 15 #[.pointer (some ⟨d, 0, none⟩), .int .i64 k] w (Wrote w base d fp D' (.int .i64 e)) := by
  have := back_trail h k
  rwa [he, hd] at this
theorem level_n (h : Trail w base d fp D) (v : Int) {x : Int} {b : Bool} (hb : -9223372036854775808 ≤ v ∧ v ≤ 9223372036854775807) (hx : (rowD D v).1 = x) (hs : isSet D v = b) : Calls Try.prog 16 #[.pointer (some ⟨d, 0, none⟩), .int .i64 v] w fun e w' => e = .returned (.tuple #[.int .i64 x, .bool b]) ∧ Below w.heap.size w w' := by
  have := level_trail h v hb
  rwa [hx, hs] at this
theorem reason_n (h : Trail w base d fp D) (v : Int) {x : Int} {b : Bool} (hb : -9223372036854775808 ≤ v ∧ v ≤ 9223372036854775807) (hx : (rowD D v).2.1 = x) (hs : isSet D v = b) : Calls Try.prog 14 #[.pointer (some ⟨d, 0, none⟩), .int .i64 v] w fun e w' => e = .returned (.tuple #[.int .i64 x, .bool b]) ∧ Below w.heap.size w w' := by
  have := reason_trail h v hb
  rwa [hx, hs] at this
theorem place_n (h : Trail w base d fp D) (v : Int) {x : Int} {b : Bool} (hb : -9223372036854775808 ≤ v ∧ v ≤ 9223372036854775807) (hx : (rowD D v).2.2.1 = x) (hs : isSet D v = b) : Calls Try.prog 24 #[.pointer (some ⟨d, 0, none⟩), .int .i64 v] w fun e w' => e = .returned (.tuple #[.int .i64 x, .bool b]) ∧ Below w.heap.size w w' := by
  have := place_trail h v hb
  rwa [hx, hs] at this
theorem now_n (h : Trail w base d fp D) {x : Int} (hx : (D.st.length : Int) - 1 = x) : Calls Try.prog 20 #[.pointer (some ⟨d, 0, none⟩)] w fun e w' => e = .returned (.int .i64 x) ∧ w = w' := by
  have := now_trail h
  rwa [hx] at this
theorem len_n (h : Trail w base d fp D) {x : Int} (hx : (D.its.length : Int) = x) : Calls Try.prog 23 #[.pointer (some ⟨d, 0, none⟩)] w fun e w' => e = .returned (.int .i64 x) ∧ w = w' := by
  have := len_trail h
  rwa [hx] at this
theorem start_n (h : Trail w base d fp D) (i : Int) {x e : Int} (hx : startD D i = x) (he : startE D i = e) : Calls Try.prog 27 #[.pointer (some ⟨d, 0, none⟩), .int .i64 i] w fun r w' => r = .returned (.tuple #[.int .i64 x, .int .i64 e]) ∧ w = w' := by
  have := start_trail h i
  rwa [hx, he] at this
theorem at_n (h : Trail w base d fp D) (i : Int) {x e : Int} (hx : atD D i = x) (he : atE D i = e) : Calls Try.prog 26 #[.pointer (some ⟨d, 0, none⟩), .int .i64 i] w fun r w' => r = .returned (.tuple #[.int .i64 x, .int .i64 e]) ∧ w = w' := by
  have := at_trail h i
  rwa [hx, he] at this
theorem value_n (h : Trail w base d fp D) (l : Int) {x : Int} (hx : valD D l = x) : Calls Try.prog 17 #[.pointer (some ⟨d, 0, none⟩), .int .i64 l] w fun e w' => e = .returned (.int .i64 x) ∧ Below w.heap.size w w' := by
  have := value_trail h l
  rwa [hx] at this
theorem new_n (n : Nat) (hn : n ≤ 1048576) : Calls Try.prog 10 #[.int .i64 (n : Int)] w (NewPost n w) := new_ok n w hn
theorem Trail.below {w0 W W' : World} (h : Trail W base d fp D) (ho : Only fp W W') (hb : Below w0.heap.size w0 W) (hB : w0.heap.size ≤ base) : Below w0.heap.size w0 W' :=
  hb.trans (ho.below hb.size (fun k hk => by have := (h.ge k hk).1; omega))
end
theorem below_and {w W W' : World} (h : Below w.heap.size w W) (k : Below W.heap.size W W') : Below w.heap.size w W' := h.trans (k.mono h.size)
/-- A trail that a function made, and that it goes on with. -/
def Own (w : World) (d : Nat) (D : Trl) (W : World) : Prop := ∃ fp, Trail W w.heap.size d fp D ∧ Below w.heap.size w W
theorem Own.new {w W W' : World} {d : Nat} {D : Trl} (h : Own w d D W) (hb : Below W.heap.size W W') : Own w d D W' := by
  obtain ⟨fp, h1, h2⟩ := h
  exact ⟨fp, h1.new hb, below_and h2 hb⟩
section
variable {w W : World} {d : Nat} {D D' : Trl}
theorem own_new (n : Nat) (hn : n ≤ 1048576) (hB : Below w.heap.size w W) : Calls Try.prog 10 #[.int .i64 (n : Int)] W fun e w' => ∃ d, e = .returned (.tuple #[.pointer (some ⟨d, 0, none⟩), .int .i64 0]) ∧ Own w d (newT n) w' := by
  refine (new_ok n W hn).mono ?_
  rintro e w' ⟨d, fp, rfl, h1, h2⟩
  exact ⟨d, rfl, fp, h1.base_le hB.size, below_and hB h2⟩
theorem own_wrote {base : Nat} {fp : List Nat} {r : Value} {e : Ending} {w' : World} (h : Trail W w.heap.size d fp D) (hB : Below w.heap.size w W) (hw : Wrote W w.heap.size d fp D' r e w') : e = .returned r ∧ Own w d D' w' := by
  obtain ⟨he, fp', h1, _, h3⟩ := hw
  exact ⟨he, fp', h1, h.below h3 hB (Nat.le_refl _)⟩
theorem own_assign (h : Own w d D W) (l r : Int) {e : Int} (he : asgE D l r = e) (hd : asgD D l r = D') : Calls Try.prog 13 #[.pointer (some ⟨d, 0, none⟩), .int .i64 l, .int .i64 r] W fun x w' => x = .returned (.int .i64 e) ∧ Own w d D' w' := by
  obtain ⟨fp, h1, h2⟩ := h
  exact (assign_n h1 l r he hd).mono fun _ _ hw => own_wrote (base := 0) h1 h2 hw
theorem own_push (h : Own w d D W) {e : Int} (he : pshE D = e) (hd : pshD D = D') : Calls Try.prog 12 #[.pointer (some ⟨d, 0, none⟩)] W fun x w' => x = .returned (.int .i64 e) ∧ Own w d D' w' := by
  obtain ⟨fp, h1, h2⟩ := h
  exact (push_n h1 he hd).mono fun _ _ hw => own_wrote (base := 0) h1 h2 hw
theorem own_back (h : Own w d D W) (k : Int) {e : Int} (he : bckE D k = e) (hd : bckD D k = D') : Calls Try.prog 15 #[.pointer (some ⟨d, 0, none⟩), .int .i64 k] W fun x w' => x = .returned (.int .i64 e) ∧ Own w d D' w' := by
  obtain ⟨fp, h1, h2⟩ := h
  exact (back_n h1 k he hd).mono fun _ _ hw => own_wrote (base := 0) h1 h2 hw
theorem own_level (h : Own w d D W) (v : Int) {x : Int} {b : Bool} (hb : -9223372036854775808 ≤ v ∧ v ≤ 9223372036854775807) (hx : (rowD D v).1 = x) (hs : isSet D v = b) : Calls Try.prog 16 #[.pointer (some ⟨d, 0, none⟩), .int .i64 v] W fun e w' => e = .returned (.tuple #[.int .i64 x, .bool b]) ∧ Own w d D w' := by
  obtain ⟨fp, h1, h2⟩ := h
  exact (level_n h1 v hb hx hs).mono fun _ _ hw => ⟨hw.1, Own.new ⟨fp, h1, h2⟩ hw.2⟩
theorem own_reason (h : Own w d D W) (v : Int) {x : Int} {b : Bool} (hb : -9223372036854775808 ≤ v ∧ v ≤ 9223372036854775807) (hx : (rowD D v).2.1 = x) (hs : isSet D v = b) : Calls Try.prog 14 #[.pointer (some ⟨d, 0, none⟩), .int .i64 v] W fun e w' => e = .returned (.tuple #[.int .i64 x, .bool b]) ∧ Own w d D w' := by
  obtain ⟨fp, h1, h2⟩ := h
  exact (reason_n h1 v hb hx hs).mono fun _ _ hw => ⟨hw.1, Own.new ⟨fp, h1, h2⟩ hw.2⟩
theorem own_place (h : Own w d D W) (v : Int) {x : Int} {b : Bool} (hb : -9223372036854775808 ≤ v ∧ v ≤ 9223372036854775807) (hx : (rowD D v).2.2.1 = x) (hs : isSet D v = b) : Calls Try.prog 24 #[.pointer (some ⟨d, 0, none⟩), .int .i64 v] W fun e w' => e = .returned (.tuple #[.int .i64 x, .bool b]) ∧ Own w d D w' := by
  obtain ⟨fp, h1, h2⟩ := h
  exact (place_n h1 v hb hx hs).mono fun _ _ hw => ⟨hw.1, Own.new ⟨fp, h1, h2⟩ hw.2⟩
theorem own_now (h : Own w d D W) {x : Int} (hx : (D.st.length : Int) - 1 = x) : Calls Try.prog 20 #[.pointer (some ⟨d, 0, none⟩)] W fun e w' => e = .returned (.int .i64 x) ∧ W = w' := by
  obtain ⟨fp, h1, h2⟩ := h
  exact now_n h1 hx
theorem own_len (h : Own w d D W) {x : Int} (hx : (D.its.length : Int) = x) : Calls Try.prog 23 #[.pointer (some ⟨d, 0, none⟩)] W fun e w' => e = .returned (.int .i64 x) ∧ W = w' := by
  obtain ⟨fp, h1, h2⟩ := h
  exact len_n h1 hx
theorem own_start (h : Own w d D W) (i : Int) {x e : Int} (hx : startD D i = x) (he : startE D i = e) : Calls Try.prog 27 #[.pointer (some ⟨d, 0, none⟩), .int .i64 i] W fun r w' => r = .returned (.tuple #[.int .i64 x, .int .i64 e]) ∧ W = w' := by
  obtain ⟨fp, h1, h2⟩ := h
  exact start_n h1 i hx he
theorem own_at (h : Own w d D W) (i : Int) {x e : Int} (hx : atD D i = x) (he : atE D i = e) : Calls Try.prog 26 #[.pointer (some ⟨d, 0, none⟩), .int .i64 i] W fun r w' => r = .returned (.tuple #[.int .i64 x, .int .i64 e]) ∧ W = w' := by
  obtain ⟨fp, h1, h2⟩ := h
  exact at_n h1 i hx he
theorem own_value (h : Own w d D W) (l : Int) {x : Int} (hx : valD D l = x) : Calls Try.prog 17 #[.pointer (some ⟨d, 0, none⟩), .int .i64 l] W fun e w' => e = .returned (.int .i64 x) ∧ Own w d D w' := by
  obtain ⟨fp, h1, h2⟩ := h
  exact (value_n h1 l hx).mono fun _ _ hw => ⟨hw.1, Own.new ⟨fp, h1, h2⟩ hw.2⟩
end
end Go.Proofs.Ytkedepkhcbhcdaa
