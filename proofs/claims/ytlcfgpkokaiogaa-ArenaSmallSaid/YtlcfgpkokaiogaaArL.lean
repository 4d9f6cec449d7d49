/- Arenas: an arena beside things of its maker's. -/
import Derived.Test.YtlcfgpkokaiogaaArK
namespace Go.Proofs.Ytlcfgpkokaiogaa
open Go Go.RowKit Go.Shelf
set_option linter.unusedVariables false
set_option linter.unusedSimpArgs false
set_option maxHeartbeats 4000000
/-- A thing in memory: its blocks, and what is true of them. -/
structure Thing where
  bs : List Nat
  P : World → Prop
  keep : ∀ (fp : List Nat) (W W' : World), Only fp W W' → (∀ k, k ∈ bs → k ∉ fp) → P W → P W'
  ck : ∀ (B : Nat) (W W' : World), CellsKept B W W' → P W → P W'
  cells : ∀ (W : World) (k : Nat) (o : Obj), P W → k ∈ bs → W.heap[k]? = some o → o.isCells = true
def rowT (base : Nat) (e : TypeId) (size : Nat) (v : Value) (n : Nat) (xs : List Value) : Thing where
  bs := v.ownBlock.toList
  P W := W.ownsRow base e size v n xs
  keep fp W W' ho hn h := own_only h ho (fun k hk => hn k (by simp [hk]))
  ck B W W' k h := own_ck h k
  cells W k o h hk ho := own_cells h (by simpa using hk) ho
def blkT (g : Nat) (t : TypeId) (cs : Array Value) : Thing where
  bs := [g]
  P W := Blk W g t cs
  keep fp W W' ho hn h := h.only ho (hn g (by simp))
  ck B W W' k h := h.ck k
  cells W k o h hk ho := by rw [List.mem_singleton] at hk; subst hk; exact blk_cells h ho
/-- An arena and things beside it, all new or among the blocks fp0 since W0. -/
structure RunF (W0 : World) (fp0 : List Nat) (fpa : List Nat) (ts : List Thing) (d : Nat) (al : List (Nat × List Int)) (last : Nat) (W : World) : Prop where
  ar : Arena W 0 d fpa al last
  on : Only fp0 W0 W
  at_ : ∀ k, k ∈ fpa → k ∈ fp0 ∨ W0.heap.size ≤ k
  tg : ∀ t, t ∈ ts → t.P W ∧ ∀ k, k ∈ t.bs → k ∉ fpa ∧ (k ∈ fp0 ∨ W0.heap.size ≤ k) ∧ k < W.heap.size
  pw : ts.Pairwise (fun a b => ∀ k, k ∈ a.bs → k ∉ b.bs)
def Run (W0 : World) (fp0 : List Nat) (ts : List Thing) (d : Nat) (al : List (Nat × List Int)) (last : Nat) (W : World) : Prop := ∃ fpa, RunF W0 fp0 fpa ts d al last W
section
variable {W0 W W' : World} {fp0 : List Nat} {ts : List Thing} {d last last' : Nat} {al al' : List (Nat × List Int)}
theorem Run.ok (h : Run W0 fp0 ts d al last W) : AOk al last := by
  obtain ⟨fpa, h⟩ := h
  exact h.ar.ok
theorem Run.on (h : Run W0 fp0 ts d al last W) : Only fp0 W0 W := by
  obtain ⟨fpa, h⟩ := h
  exact h.on
theorem Run.thing (h : Run W0 fp0 ts d al last W) {t : Thing} (ht : t ∈ ts) : t.P W := by
  obtain ⟨fpa, h⟩ := h
  exact (h.tg t ht).1
theorem Run.below {w : World} (h : Run w [] ts d al last W) : Below w.heap.size w W := h.on.below (Nat.le_refl _) (by simp)
theorem Run.new (h : Run W0 fp0 ts d al last W) (hb : Below W.heap.size W W') : Run W0 fp0 ts d al last W' := by
  obtain ⟨fpa, h⟩ := h
  refine ⟨fpa, h.ar.new hb, h.on.trans (only_of_below fp0 hb), h.at_, fun t ht => ⟨t.keep [] W W' (only_of_below [] hb) (by simp) (h.tg t ht).1, fun k hk => ?_⟩, h.pw⟩
  have := (h.tg t ht).2 k hk
  have := hb.size
  exact ⟨(h.tg t ht).2 k hk |>.1, (h.tg t ht).2 k hk |>.2.1, by omega⟩
theorem run_wrote {fpa : List Nat} {r : Value} {e : Ending} (h : RunF W0 fp0 fpa ts d al last W) (hw : Wrote W 0 d fpa al' last' r e W') : e = .returned r ∧ Run W0 fp0 ts d al' last' W' := by
  obtain ⟨he, fp', g1, g2, g3⟩ := hw
  have hsz := h.on.size
  refine ⟨he, fp', g1, h.on.then g3 (fun k hk hlt => ?_), fun k hk => ?_, fun t ht => ⟨t.keep fpa W W' g3 (fun k hk => ((h.tg t ht).2 k hk).1) (h.tg t ht).1, fun k hk => ?_⟩, h.pw⟩
  · rcases h.at_ k hk with h1 | h1
    · exact h1
    · omega
  · rcases g2 k hk with h1 | h1
    · exact h.at_ k h1
    · exact .inr (by omega)
  · obtain ⟨h1, h2, h3⟩ := (h.tg t ht).2 k hk
    refine ⟨fun hm => ?_, h2, Nat.lt_of_lt_of_le h3 g3.size⟩
    rcases g2 k hm with h4 | h4
    · exact h1 h4
    · omega
/-- A new thing. -/
theorem Run.fresh (h : Run W0 fp0 ts d al last W) (hb : Below W.heap.size W W') {t : Thing} (ht : t.P W') (hn : ∀ k, k ∈ t.bs → W.heap.size ≤ k ∧ k < W'.heap.size) : Run W0 fp0 (t :: ts) d al last W' := by
  have h0 := h
  obtain ⟨fpa, h⟩ := h
  have hsz := h.on.size
  refine ⟨fpa, h.ar.new hb, h.on.trans (only_of_below fp0 hb), h.at_, fun q hq => ?_, List.pairwise_cons.2 ⟨fun q hq k hk hm => ?_, h.pw⟩⟩
  · rcases List.mem_cons.1 hq with rfl | hq
    · refine ⟨ht, fun k hk => ⟨fun hm => ?_, .inr ?_, (hn k hk).2⟩⟩
      · have := (h.ar.ge k hm).2
        have := (hn k hk).1
        omega
      · have := (hn k hk).1
        omega
    · refine ⟨q.keep [] W W' (only_of_below [] hb) (by simp) (h.tg q hq).1, fun k hk => ?_⟩
      have h1 := (h.tg q hq).2 k hk
      exact ⟨h1.1, h1.2.1, Nat.lt_of_lt_of_le h1.2.2 hb.size⟩
  · have h1 := ((h.tg q hq).2 k hm).2.2
    have := (hn k hk).1
    omega
/-- A thing is changed. -/
theorem Run.change {t : Thing} (h : Run W0 fp0 (t :: ts) d al last W) (ho : Only t.bs W W') {t' : Thing} (ht : t'.P W') (hn : ∀ k, k ∈ t'.bs → k ∈ t.bs ∨ W.heap.size ≤ k ∧ k < W'.heap.size) : Run W0 fp0 (t' :: ts) d al last W' := by
  obtain ⟨fpa, h⟩ := h
  have hsz := h.on.size
  have h1 := h.tg t (by simp)
  have hp := List.pairwise_cons.1 h.pw
  refine ⟨fpa, h.ar.keep ho (fun k hk hm => (h1.2 k hm).1 hk), h.on.then ho (fun k hk hlt => ?_), h.at_, fun q hq => ?_, List.pairwise_cons.2 ⟨fun q hq k hk hm => ?_, hp.2⟩⟩
  · rcases (h1.2 k hk).2.1 with h2 | h2
    · exact h2
    · omega
  · rcases List.mem_cons.1 hq with rfl | hq
    · refine ⟨ht, fun k hk => ?_⟩
      rcases hn k hk with h2 | h2
      · exact ⟨(h1.2 k h2).1, (h1.2 k h2).2.1, Nat.lt_of_lt_of_le (h1.2 k h2).2.2 ho.size⟩
      · exact ⟨fun hm => by have := (h.ar.ge k hm).2; omega, .inr (by omega), h2.2⟩
    · have h2 := h.tg q (by simp [hq])
      exact ⟨q.keep _ W W' ho (fun k hk hm => hp.1 q hq k hm hk) h2.1, fun k hk => ⟨(h2.2 k hk).1, (h2.2 k hk).2.1, Nat.lt_of_lt_of_le (h2.2 k hk).2.2 ho.size⟩⟩
  · rcases hn k hk with h2 | h2
    · exact hp.1 q hq k h2 hm
    · have := ((h.tg q (by simp [hq])).2 k hm).2.2
      omega
theorem Run.perm {ts' : List Thing} (h : Run W0 fp0 ts d al last W) (hp : ts.Perm ts') : Run W0 fp0 ts' d al last W := by
  obtain ⟨fpa, h⟩ := h
  exact ⟨fpa, h.ar, h.on, h.at_, fun t ht => h.tg t (hp.mem_iff.2 ht), (hp.pairwise_iff (fun {a b} hab k hk hm => hab k hm hk)).1 h.pw⟩
theorem Run.swap {a b : Thing} (h : Run W0 fp0 (a :: b :: ts) d al last W) : Run W0 fp0 (b :: a :: ts) d al last W := h.perm (List.Perm.swap b a ts)
theorem Run.tail {t : Thing} (h : Run W0 fp0 (t :: ts) d al last W) : Run W0 fp0 ts d al last W := by
  obtain ⟨fpa, h⟩ := h
  exact ⟨fpa, h.ar, h.on, h.at_, fun q hq => h.tg q (by simp [hq]), (List.pairwise_cons.1 h.pw).2⟩
/-- The blocks of a run. -/
def allB (fpa : List Nat) (ts : List Thing) : List Nat := fpa ++ ts.flatMap (·.bs)
theorem mem_allB {fpa : List Nat} {ts : List Thing} {k : Nat} : k ∈ allB fpa ts ↔ k ∈ fpa ∨ ∃ t ∈ ts, k ∈ t.bs := by simp [allB]
/-- A run seen from a later world. -/
theorem RunF.rebase {fpa : List Nat} {w : World} (h : RunF w fp0 fpa ts d al last W) {V : World} (ho : Only [] V W) : Run V (allB fpa ts) ts d al last W :=
  ⟨fpa, h.ar, ho.more (by simp), fun k hk => .inl (mem_allB.2 (.inl hk)), fun t ht => ⟨(h.tg t ht).1, fun k hk => ⟨((h.tg t ht).2 k hk).1, .inl (mem_allB.2 (.inr ⟨t, ht, hk⟩)), ((h.tg t ht).2 k hk).2.2⟩⟩, h.pw⟩
theorem RunF.lt {fpa : List Nat} (h : RunF W0 fp0 fpa ts d al last W) : ∀ k, k ∈ allB fpa ts → k < W.heap.size ∧ (k ∈ fp0 ∨ W0.heap.size ≤ k) := by
  intro k hk
  rcases mem_allB.1 hk with hk | ⟨t, ht, hk⟩
  · exact ⟨(h.ar.ge k hk).2, h.at_ k hk⟩
  · exact ⟨((h.tg t ht).2 k hk).2.2, ((h.tg t ht).2 k hk).2.1⟩
/-- A run at a round's end. -/
theorem RunF.back {w V : World} {fpa : List Nat} {fp : List Nat} (h0 : Only fp0 w V) (hfp : ∀ k, k ∈ fp → k ∈ fp0 ∨ w.heap.size ≤ k) (h : RunF V fp fpa ts d al last W) : RunF w fp0 fpa ts d al last W := by
  have hsz := h0.size
  refine ⟨h.ar, h0.then h.on (fun k hk hlt => ?_), fun k hk => ?_, fun t ht => ⟨(h.tg t ht).1, fun k hk => ⟨((h.tg t ht).2 k hk).1, ?_, ((h.tg t ht).2 k hk).2.2⟩⟩, h.pw⟩
  · rcases hfp k hk with h1 | h1
    · exact h1
    · omega
  · rcases h.at_ k hk with h1 | h1
    · exact hfp k h1
    · exact .inr (by omega)
  · rcases ((h.tg t ht).2 k hk).2.1 with h1 | h1
    · exact hfp k h1
    · exact .inr (by omega)
theorem RunF.ck {fpa : List Nat} {B : Nat} (h : RunF W0 fp0 fpa ts d al last W) (k : CellsKept B W W') (hB : W0.heap.size ≤ B) : RunF W0 fp0 fpa ts d al last W' := by
  refine ⟨h.ar.ck k, ?_, h.at_, fun t ht => ⟨t.ck B W W' k (h.tg t ht).1, fun j hj => ?_⟩, h.pw⟩
  · refine ⟨k.os.trans h.on.os, k.tape.trans h.on.tape, k.output.trans h.on.output, Nat.le_trans h.on.size k.size, fun i hi hn => ?_⟩
    have h1 : i < W.heap.size := by have := h.on.size; omega
    have h2 : W.heap[i]? = some W.heap[i] := Array.getElem?_eq_getElem h1
    rw [k.same i _ h2 (.inr (by omega)), ← h2]
    exact h.on.block i hi hn
  · have h1 := (h.tg t ht).2 j hj
    exact ⟨h1.1, h1.2.1, Nat.lt_of_lt_of_le h1.2.2 k.size⟩
theorem RunF.cells {fpa : List Nat} (h : RunF W0 fp0 fpa ts d al last W) : ∀ k o, k ∈ allB fpa ts → W.heap[k]? = some o → o.isCells = true := by
  intro k o hk ho
  rcases mem_allB.1 hk with hk | ⟨t, ht, hk⟩
  · exact h.ar.cells k o hk ho
  · exact t.cells W k o (h.tg t ht).1 hk ho
theorem Run.putDone {D : Nat} (h : Run W0 fp0 ts d al last W) (hD : W.heap[D]? = some (.deferred (some []))) (hB : W0.heap.size ≤ D) : Run W0 fp0 ts d al last (W.putObj D (.deferred none)) := by
  obtain ⟨fpa, h⟩ := h
  exact ⟨fpa, h.ck (CellsKept.putObj (B := W0.heap.size) W _ hD rfl hB) (Nat.le_refl _)⟩
/-- The calls. -/
theorem run_new {w : World} (hB : Below w.heap.size w W) : Calls Try.prog 13 #[] W fun e w' => ∃ d, e = .returned (.pointer (some ⟨d, 0, none⟩)) ∧ Run w [] [] d [] 0 w' := by
  refine (new_ok W).mono ?_
  rintro e w' ⟨d, fp, rfl, h1, h2⟩
  have hsz := hB.size
  exact ⟨d, rfl, fp, h1.base_le (Nat.zero_le _), (only_of_below [] hB).trans (only_of_below [] h2), fun k hk => .inr (by have := (h1.ge k hk).1; omega), by simp, List.Pairwise.nil⟩
theorem run_add (h : Run W0 fp0 ts d al last W) {A : Option Addr} {n c B : Nat} {l : List Int} (hrd : Reads W B 1 A n (lits l)) (hB : B ≤ W.heap.size) (hn : n ≤ 9223372036854775807) (id : Int) {e : Int} (he : addErr al last id l = e) (hal : addAl al last id l = al') (hla : addLast al last id l = last') :
    Calls Try.prog 14 #[.pointer (some ⟨d, 0, none⟩), .int .i64 id, .slice A n c] W fun x w' => x = .returned (.int .i64 e) ∧ Run W0 fp0 ts d al' last' w' := by
  obtain ⟨fpa, h⟩ := h
  have := add_arena (c := c) h.ar hrd hB hn id
  rw [he, hal, hla] at this
  exact this.mono fun x w' hw => run_wrote h hw
theorem run_del (h : Run W0 fp0 ts d al last W) (id : Int) (hb : -9223372036854775808 ≤ id ∧ id ≤ 9223372036854775807) {e : Int} (he : delErr al id = e) (hal : without al id = al') :
    Calls Try.prog 15 #[.pointer (some ⟨d, 0, none⟩), .int .i64 id] W fun x w' => x = .returned (.int .i64 e) ∧ Run W0 fp0 ts d al' last w' := by
  obtain ⟨fpa, h⟩ := h
  have := del_arena h.ar id hb
  rw [he, hal] at this
  exact this.mono fun x w' hw => run_wrote h hw
/-- What Get answers, in a run. -/
def GotR (W0 : World) (fp0 : List Nat) (ts : List Thing) (d : Nat) (al : List (Nat × List Int)) (last : Nat) (W : World) (l : List Int) (x : Int) (r : Ending) (w' : World) : Prop :=
  ∃ A c, r = .returned (.tuple #[.slice A l.length c, .int .i64 x]) ∧ Run W0 fp0 (rowT W.heap.size 30 1 (.slice A l.length c) l.length (lits l) :: ts) d al last w'
theorem run_get (h : Run W0 fp0 ts d al last W) (id : Int) (hb : -9223372036854775808 ≤ id ∧ id ≤ 9223372036854775807) {l : List Int} {e : Int} (hl : getL al id = l) (he : getE al id = e) :
    Calls Try.prog 17 #[.pointer (some ⟨d, 0, none⟩), .int .i64 id] W (GotR W0 fp0 ts d al last W l e) := by
  have h0 := h
  obtain ⟨fpa, h⟩ := h
  have := get_arena h.ar id hb
  rw [hl, he] at this
  refine this.mono ?_
  rintro x w' ⟨A, c, rfl, h1, h2⟩
  exact ⟨A, c, rfl, h0.fresh (t := rowT W.heap.size 30 1 (.slice A l.length c) l.length (lits l)) h2 h1 (fun k hk => h1.lt k (by simpa [rowT] using hk))⟩
theorem run_len (h : Run W0 fp0 ts d al last W) (id : Int) (hb : -9223372036854775808 ≤ id ∧ id ≤ 9223372036854775807) {n e : Int} (hl : ((getL al id).length : Int) = n) (he : getE al id = e) :
    Calls Try.prog 18 #[.pointer (some ⟨d, 0, none⟩), .int .i64 id] W fun r w' => r = .returned (.tuple #[.int .i64 n, .int .i64 e]) ∧ Run W0 fp0 ts d al last w' := by
  have h0 := h
  obtain ⟨fpa, h⟩ := h
  have := len_arena h.ar id hb
  rw [hl, he] at this
  exact this.mono fun x w' hw => ⟨hw.1, h0.new hw.2⟩
theorem run_lit (h : Run W0 fp0 ts d al last W) (id i : Int) (hb : -9223372036854775808 ≤ id ∧ id ≤ 9223372036854775807) {n e : Int} (hl : litV al id i = n) (he : litE al id i = e) :
    Calls Try.prog 19 #[.pointer (some ⟨d, 0, none⟩), .int .i64 id, .int .i64 i] W fun r w' => r = .returned (.tuple #[.int .i64 n, .int .i64 e]) ∧ Run W0 fp0 ts d al last w' := by
  have h0 := h
  obtain ⟨fpa, h⟩ := h
  have := lit_arena h.ar id i hb
  rw [hl, he] at this
  exact this.mono fun x w' hw => ⟨hw.1, h0.new hw.2⟩
theorem run_has (h : Run W0 fp0 ts d al last W) (id : Int) (hb : -9223372036854775808 ≤ id ∧ id ≤ 9223372036854775807) {b : Bool} (hl : hasA al id = b) :
    Calls Try.prog 21 #[.pointer (some ⟨d, 0, none⟩), .int .i64 id] W fun r w' => r = .returned (.bool b) ∧ Run W0 fp0 ts d al last w' := by
  have h0 := h
  obtain ⟨fpa, h⟩ := h
  have := has_arena h.ar id hb
  rw [hl] at this
  exact this.mono fun x w' hw => ⟨hw.1, h0.new hw.2⟩
theorem run_used (h : Run W0 fp0 ts d al last W) {n : Int} (hn : (usedL al : Int) = n) : Calls Try.prog 16 #[.pointer (some ⟨d, 0, none⟩)] W fun r w' => r = .returned (.int .i64 n) ∧ W = w' := by
  obtain ⟨fpa, h⟩ := h
  have := used_arena h.ar
  rwa [hn] at this
theorem run_count (h : Run W0 fp0 ts d al last W) {n : Int} (hn : (al.length : Int) = n) : Calls Try.prog 22 #[.pointer (some ⟨d, 0, none⟩)] W fun r w' => r = .returned (.int .i64 n) ∧ W = w' := by
  obtain ⟨fpa, h⟩ := h
  have := count_arena h.ar
  rwa [hn] at this
theorem run_last (h : Run W0 fp0 ts d al last W) {n : Int} (hn : (last : Int) = n) : Calls Try.prog 24 #[.pointer (some ⟨d, 0, none⟩)] W fun r w' => r = .returned (.int .i64 n) ∧ W = w' := by
  obtain ⟨fpa, h⟩ := h
  have := last_arena h.ar
  rwa [hn] at this
theorem run_held (h : Run W0 fp0 ts d al last W) : Calls Try.prog 23 #[.pointer (some ⟨d, 0, none⟩)] W (HeldA W al) := by
  obtain ⟨fpa, h⟩ := h
  exact held_arena h.ar
end
end Go.Proofs.Ytlcfgpkokaiogaa
