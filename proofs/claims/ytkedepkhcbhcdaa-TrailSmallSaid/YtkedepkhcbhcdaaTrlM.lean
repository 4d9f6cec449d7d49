/- Trails: a run of literals, plain; a trail beside rows of its maker's. -/
import Derived.Test.YtkedepkhcbhcdaaTrlL
namespace Go.Proofs.Ytkedepkhcbhcdaa
open Go Go.RowKit Go.Shelf
set_option linter.unusedVariables false
set_option linter.unusedSimpArgs false
set_option maxHeartbeats 4000000
def preS (D : Trl) (b : Int) : Trl := if b % 5 = 0 then pshD D else D
def putS (D : Trl) (b : Int) : Trl := asgD (preS D b) (madeL b) b
def putT (l : List Int) : Trl := l.foldl putS (newT 8)
def lvls (D : Trl) : List Int := D.its.map fun x => (x.lvl : Int)
theorem lits_len (D : Trl) : (lits D).length = D.its.length := by simp [lits]
theorem lvls_len (D : Trl) : (lvls D).length = D.its.length := by simp [lvls]
theorem putT_snoc {l : List Int} {k : Nat} {b : Int} (h : l[k]? = some b) : putT (l.take (k + 1)) = putS (putT (l.take k)) b := by
  rw [take_snoc h]; simp [putT]
/-- What a run's trail is like. -/
structure Few (D : Trl) (k : Nat) : Prop where
  n8 : D.n = 8
  st : D.st.length ≤ k + 1
theorem pshE_few {D : Trl} {k : Nat} (h : Few D k) (hk : k ≤ 40) : pshE D = 0 ∧ pshD D = psh D := by
  have := h.st
  exact ⟨if_neg (by omega), if_neg (by omega)⟩
theorem preS_few {D : Trl} {k : Nat} (h : Few D k) (hk : k ≤ 40) (b : Int) : Few (preS D b) (k + 1) := by
  unfold preS
  split
  · rw [(pshE_few h hk).2]
    exact ⟨h.n8, by have := h.st; simp [psh]; omega⟩
  · exact ⟨h.n8, by have := h.st; omega⟩
theorem asgD_n (D : Trl) (l r : Int) : (asgD D l r).n = D.n ∧ (asgD D l r).st = D.st := by
  unfold asgD
  split <;> exact ⟨rfl, rfl⟩
theorem putS_few {D : Trl} {k : Nat} (h : Few D k) (hk : k ≤ 40) (b : Int) : Few (putS D b) (k + 1) := by
  have h2 := preS_few h hk b
  have h3 := asgD_n (preS D b) (madeL b) b
  exact ⟨by rw [putS, h3.1]; exact h2.n8, by rw [putS, h3.2]; exact h2.st⟩
theorem putT_few {l : List Int} : ∀ {k : Nat}, k ≤ 40 → k ≤ l.length → Few (putT (l.take k)) k
  | 0, _, _ => ⟨rfl, by simp [putT, newT]⟩
  | k + 1, h1, h2 => by
    obtain ⟨b, hb⟩ : ∃ b, l[k]? = some b := ⟨_, List.getElem?_eq_getElem (by omega)⟩
    rw [putT_snoc hb]
    exact putS_few (putT_few (by omega) (by omega)) (by omega) b
theorem preS_its (D : Trl) (b : Int) : (preS D b).its = D.its := by
  unfold preS pshD
  split
  · split <;> rfl
  · rfl
/-- What Assign says of a literal of the run. -/
theorem asg_made {D : Trl} (h8 : D.n = 8) {x r : Int} (hx : x ≠ 0 ∧ -8 ≤ x ∧ x ≤ 8) (hr : 0 ≤ r ∧ r ≤ 1073741824) : (asgE D x r = 0 ∨ asgE D x r = 41) ∧ (asgE D x r = 0 ↔ valD D x = 0) := by
  have hv : isV D x = true := by simp [isV, h8]; omega
  have hvar : varL x = if x < 0 then -x else x := by
    have : rightL x = true := by simp [rightL]; omega
    rw [varL, this]; rfl
  have he : asgE D x r = if (row D.its (varL x)).2.2.2 ≠ 0 then 41 else 0 := by
    unfold asgE
    rw [if_neg (by rw [hv]; decide), if_neg (by omega)]
  have hval : valD D x = (row D.its (varL x)).2.2.2 * sgn x := by
    unfold valD
    rw [if_pos hv, hvar]
  have hs : sgn x = 1 ∨ sgn x = -1 := by unfold sgn; split <;> simp
  rw [he, hval]
  by_cases h0 : (row D.its (varL x)).2.2.2 = 0
  · rw [if_neg (by simpa using h0), h0]
    simp
  · rw [if_pos h0]
    refine ⟨.inr rfl, ⟨fun h => absurd h (by decide), fun h => ?_⟩⟩
    rcases hs with e | e <;> rw [e] at h <;> omega
/-- A row of numbers that a function holds. -/
structure Row where
  e : Nat
  v : Value
  l : List Int
/-- A trail that a function made, beside rows of its own. -/
def Run (w : World) (rs : List Row) (d : Nat) (D : Trl) (W : World) : Prop :=
  ∃ fp, Trail W w.heap.size d fp D ∧ Below w.heap.size w W ∧ ∀ r ∈ rs, W.ownsRow w.heap.size r.e 1 r.v r.l.length (litV r.l) ∧ ∀ k, r.v.ownBlock = some k → k ∉ fp
section
variable {w W W' : World} {rs : List Row} {d : Nat} {D D' : Trl}
theorem Run.ok (h : Run w rs d D W) : D.Ok := by
  obtain ⟨fp, h1, _⟩ := h
  exact h1.ok
theorem Run.bel (h : Run w rs d D W) : Below w.heap.size w W := by
  obtain ⟨fp, _, h2, _⟩ := h
  exact h2
theorem Run.row (h : Run w rs d D W) {r : Row} (hr : r ∈ rs) : W.ownsRow w.heap.size r.e 1 r.v r.l.length (litV r.l) := by
  obtain ⟨fp, _, _, h3⟩ := h
  exact (h3 r hr).1
theorem Run.own (h : Run w rs d D W) : Own w d D W := by
  obtain ⟨fp, h1, h2, _⟩ := h
  exact ⟨fp, h1, h2⟩
theorem Run.new (h : Run w rs d D W) (hb : Below W.heap.size W W') : Run w rs d D W' := by
  obtain ⟨fp, h1, h2, h3⟩ := h
  exact ⟨fp, h1.new hb, below_and h2 hb, fun r hr => ⟨row_new (h3 r hr).1 hb, (h3 r hr).2⟩⟩
theorem run_wrote {fp : List Nat} {r : Value} {e : Ending} {w' : World} (h1 : Trail W w.heap.size d fp D) (h2 : Below w.heap.size w W) (h3 : ∀ r ∈ rs, W.ownsRow w.heap.size r.e 1 r.v r.l.length (litV r.l) ∧ ∀ k, r.v.ownBlock = some k → k ∉ fp)
    (hw : Wrote W w.heap.size d fp D' r e w') : e = .returned r ∧ Run w rs d D' w' := by
  obtain ⟨he, fp', g1, g2, g3⟩ := hw
  refine ⟨he, fp', g1, h1.below g3 h2 (Nat.le_refl _), fun r hr => ⟨own_only (h3 r hr).1 g3 (h3 r hr).2, fun k hk hm => ?_⟩⟩
  rcases g2 k hm with hm | hm
  · exact (h3 r hr).2 k hk hm
  · have := ((h3 r hr).1.lt k hk).2
    omega
theorem run_new (n : Nat) (hn : n ≤ 1048576) (hB : Below w.heap.size w W) : Calls Try.prog 10 #[.int .i64 (n : Int)] W fun e w' => ∃ d, e = .returned (.tuple #[.pointer (some ⟨d, 0, none⟩), .int .i64 0]) ∧ Run w [] d (newT n) w' :=
  (own_new n hn hB).mono fun e w' ⟨d, he, fp, h1, h2⟩ => ⟨d, he, fp, h1, h2, by simp⟩
theorem run_assign (h : Run w rs d D W) (l r : Int) {e : Int} (he : asgE D l r = e) (hd : asgD D l r = D') : Calls Try.prog 13 #[.pointer (some ⟨d, 0, none⟩), .int .i64 l, .int .i64 r] W fun x w' => x = .returned (.int .i64 e) ∧ Run w rs d D' w' := by
  obtain ⟨fp, h1, h2, h3⟩ := h
  exact (assign_n h1 l r he hd).mono fun _ _ hw => run_wrote h1 h2 h3 hw
theorem run_push (h : Run w rs d D W) {e : Int} (he : pshE D = e) (hd : pshD D = D') : Calls Try.prog 12 #[.pointer (some ⟨d, 0, none⟩)] W fun x w' => x = .returned (.int .i64 e) ∧ Run w rs d D' w' := by
  obtain ⟨fp, h1, h2, h3⟩ := h
  exact (push_n h1 he hd).mono fun _ _ hw => run_wrote h1 h2 h3 hw
theorem run_back (h : Run w rs d D W) (k : Int) {e : Int} (he : bckE D k = e) (hd : bckD D k = D') : Calls Try.prog 15 #[.pointer (some ⟨d, 0, none⟩), .int .i64 k] W fun x w' => x = .returned (.int .i64 e) ∧ Run w rs d D' w' := by
  obtain ⟨fp, h1, h2, h3⟩ := h
  exact (back_n h1 k he hd).mono fun _ _ hw => run_wrote h1 h2 h3 hw
theorem run_level (h : Run w rs d D W) (v : Int) {x : Int} {b : Bool} (hb : -9223372036854775808 ≤ v ∧ v ≤ 9223372036854775807) (hx : (rowD D v).1 = x) (hs : isSet D v = b) : Calls Try.prog 16 #[.pointer (some ⟨d, 0, none⟩), .int .i64 v] W fun e w' => e = .returned (.tuple #[.int .i64 x, .bool b]) ∧ Run w rs d D w' := by
  have h0 := h
  obtain ⟨fp, h1, h2, h3⟩ := h
  exact (level_n h1 v hb hx hs).mono fun _ _ hw => ⟨hw.1, h0.new hw.2⟩
theorem run_reason (h : Run w rs d D W) (v : Int) {x : Int} {b : Bool} (hb : -9223372036854775808 ≤ v ∧ v ≤ 9223372036854775807) (hx : (rowD D v).2.1 = x) (hs : isSet D v = b) : Calls Try.prog 14 #[.pointer (some ⟨d, 0, none⟩), .int .i64 v] W fun e w' => e = .returned (.tuple #[.int .i64 x, .bool b]) ∧ Run w rs d D w' := by
  have h0 := h
  obtain ⟨fp, h1, h2, h3⟩ := h
  exact (reason_n h1 v hb hx hs).mono fun _ _ hw => ⟨hw.1, h0.new hw.2⟩
theorem run_place (h : Run w rs d D W) (v : Int) {x : Int} {b : Bool} (hb : -9223372036854775808 ≤ v ∧ v ≤ 9223372036854775807) (hx : (rowD D v).2.2.1 = x) (hs : isSet D v = b) : Calls Try.prog 24 #[.pointer (some ⟨d, 0, none⟩), .int .i64 v] W fun e w' => e = .returned (.tuple #[.int .i64 x, .bool b]) ∧ Run w rs d D w' := by
  have h0 := h
  obtain ⟨fp, h1, h2, h3⟩ := h
  exact (place_n h1 v hb hx hs).mono fun _ _ hw => ⟨hw.1, h0.new hw.2⟩
theorem run_value (h : Run w rs d D W) (l : Int) {x : Int} (hx : valD D l = x) : Calls Try.prog 17 #[.pointer (some ⟨d, 0, none⟩), .int .i64 l] W fun e w' => e = .returned (.int .i64 x) ∧ Run w rs d D w' := by
  have h0 := h
  obtain ⟨fp, h1, h2, h3⟩ := h
  exact (value_n h1 l hx).mono fun _ _ hw => ⟨hw.1, h0.new hw.2⟩
theorem run_now (h : Run w rs d D W) {x : Int} (hx : (D.st.length : Int) - 1 = x) : Calls Try.prog 20 #[.pointer (some ⟨d, 0, none⟩)] W fun e w' => e = .returned (.int .i64 x) ∧ W = w' := own_now h.own hx
theorem run_len (h : Run w rs d D W) {x : Int} (hx : (D.its.length : Int) = x) : Calls Try.prog 23 #[.pointer (some ⟨d, 0, none⟩)] W fun e w' => e = .returned (.int .i64 x) ∧ W = w' := own_len h.own hx
theorem run_start (h : Run w rs d D W) (i : Int) {x e : Int} (hx : startD D i = x) (he : startE D i = e) : Calls Try.prog 27 #[.pointer (some ⟨d, 0, none⟩), .int .i64 i] W fun r w' => r = .returned (.tuple #[.int .i64 x, .int .i64 e]) ∧ W = w' := own_start h.own i hx he
theorem run_at (h : Run w rs d D W) (i : Int) {x e : Int} (hx : atD D i = x) (he : atE D i = e) : Calls Try.prog 26 #[.pointer (some ⟨d, 0, none⟩), .int .i64 i] W fun r w' => r = .returned (.tuple #[.int .i64 x, .int .i64 e]) ∧ W = w' := own_at h.own i hx he
theorem run_vars (h : Run w rs d D W) {x : Int} (hx : (D.n : Int) = x) : Calls Try.prog 32 #[.pointer (some ⟨d, 0, none⟩)] W fun e w' => e = .returned (.int .i64 x) ∧ W = w' := by
  obtain ⟨fp, h1, h2, h3⟩ := h
  have := vars_trail h1
  rwa [hx] at this
/-- The literals of the trail in a new row. -/
theorem run_literals (h : Run w rs d D W) : Calls Try.prog 22 #[.pointer (some ⟨d, 0, none⟩)] W fun e w' => ∃ A' c', e = .returned (.slice A' D.its.length c') ∧ w'.ownsRow W.heap.size 27 1 (.slice A' D.its.length c') D.its.length (litV (lits D)) ∧ Run w rs d D w' := by
  have h0 := h
  obtain ⟨fp, h1, h2, h3⟩ := h
  refine (literals_ok h1 h2.size).mono ?_
  rintro e w' ⟨A', c', he, g1, g2⟩
  rw [lits_len] at he g1
  exact ⟨A', c', he, g1, h0.new g2⟩
/-- A row is grown. -/
theorem run_grow {r : Row} {v' : Value} {l' : List Int} (h : Run w (r :: rs) d D W) (hne : ∀ r' ∈ rs, r'.e ≠ r.e) (hown : W'.ownsRow w.heap.size r.e 1 v' l'.length (litV l')) (hg : W.grownBy W' r.v.ownBlock)
    (hat : v'.ownBlock = r.v.ownBlock ∨ v'.ownBlock = some W.heap.size) : Run w (⟨r.e, v', l'⟩ :: rs) d D W' := by
  obtain ⟨fp, h1, h2, h3⟩ := h
  have hr := h3 r (by simp)
  have ho : Only r.v.ownBlock.toList W W' := (Only.refl _ W).grown hg (by intro k hk; exact .inl (by simp [hk]))
  have hfar : ∀ k, k ∈ r.v.ownBlock.toList → w.heap.size ≤ k := by
    intro k hk
    exact (hr.1.lt k (by simpa using hk)).1
  refine ⟨fp, h1.keep ho (fun k hk hm => hr.2 k (by simpa using hm) hk), h2.trans (ho.below h2.size hfar), fun r' hr' => ?_⟩
  rcases List.mem_cons.1 hr' with rfl | hr'
  · refine ⟨hown, fun k hk hm => ?_⟩
    rcases hat with e | e
    · exact hr.2 k (by rw [← e]; exact hk) hm
    · have := (h1.ge k hm).2
      rw [e] at hk
      injection hk with hk
      omega
  · have hq := h3 r' (by simp [hr'])
    refine ⟨own_only hq.1 ho (fun k hk hm => ?_), hq.2⟩
    have hm : r.v.ownBlock = some k := by simpa using hm
    have e1 := hq.1
    rcases hr.1.2 with ⟨hv, _⟩ | ⟨g, cap, cur, hv, _, hh, _⟩
    · rw [hv] at hm; simp [Value.ownBlock] at hm
    · rw [hv] at hm
      have hm : g = k := by simpa [Value.ownBlock] using hm
      subst hm
      exact own_blk_ne e1 (show Blk W g r.e cur from hh) (hne r' hr') hk
theorem Run.swap {r r' : Row} (h : Run w (r :: r' :: rs) d D W) : Run w (r' :: r :: rs) d D W := by
  obtain ⟨fp, h1, h2, h3⟩ := h
  refine ⟨fp, h1, h2, fun q hq => h3 q ?_⟩
  simp only [List.mem_cons] at hq ⊢
  rcases hq with h | h | h
  · exact .inr (.inl h)
  · exact .inl h
  · exact .inr (.inr h)
theorem Run.rows (h : Run w rs d D W) {rs' : List Row} (hs : ∀ r ∈ rs', r ∈ rs) : Run w rs' d D W := by
  obtain ⟨fp, h1, h2, h3⟩ := h
  exact ⟨fp, h1, h2, fun r hr => h3 r (hs r hr)⟩
theorem Run.more (h : Run w rs d D W) {r : Row} (hr : W.ownsRow w.heap.size r.e 1 r.v r.l.length (litV r.l)) (hn : ∀ k, r.v.ownBlock = some k → ∀ fp, Trail W w.heap.size d fp D → k ∉ fp) : Run w (r :: rs) d D W := by
  obtain ⟨fp, h1, h2, h3⟩ := h
  refine ⟨fp, h1, h2, fun q hq => ?_⟩
  rcases List.mem_cons.1 hq with rfl | hq
  · exact ⟨hr, fun k hk => hn k hk fp h1⟩
  · exact h3 q hq
/-- No row yet. -/
theorem Run.nil (h : Run w rs d D W) (e : Nat) (c : Nat) : Run w (⟨e, .slice none 0 0, []⟩ :: rs) d D W := by
  refine h.more (World.ownsRow_nil _ _ _ _) (fun k hk => ?_)
  simp [Value.ownBlock] at hk
end
end Go.Proofs.Ytkedepkhcbhcdaa
