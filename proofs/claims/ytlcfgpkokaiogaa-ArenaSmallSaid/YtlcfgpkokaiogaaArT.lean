/- Arenas: what All yields, plain; lists in boxes. -/
import Derived.Test.YtlcfgpkokaiogaaArS
namespace Go.Proofs.Ytlcfgpkokaiogaa
open Go Go.RowKit Go.Shelf
set_option linter.unusedVariables false
set_option linter.unusedSimpArgs false
set_option maxHeartbeats 4000000
/-- A list in a box. -/
def listT (b : Nat) (t : TypeId) (base : Nat) (e : TypeId) (v : Value) (n : Nat) (xs : List Value) : Thing where
  bs := b :: v.ownBlock.toList
  P W := Blk W b t #[v] ∧ W.ownsRow base e 1 v n xs
  keep fp W W' ho hn h := ⟨h.1.only ho (hn b (by simp)), own_only h.2 ho (fun k hk => hn k (by simp [hk]))⟩
  ck B W W' k h := ⟨h.1.ck k, own_ck h.2 k⟩
  cells W k o h hk ho := by
    rcases List.mem_cons.1 hk with rfl | hk
    · exact blk_cells h.1 ho
    · exact own_cells h.2 (by simpa using hk) ho
section
variable {W0 W W' w3 : World} {fp0 fpa : List Nat} {ts : List Thing} {d last : Nat} {al : List (Nat × List Int)}
theorem Run.pushL {b base n n' : Nat} {t e : TypeId} {v v' : Value} {xs xs' : List Value} (h : Run W0 fp0 (listT b t base e v n xs :: ts) d al last W) (hne : e ≠ t) {o : Obj} (hown : w3.ownsRow base e 1 v' n' xs') (hg : (W.alloc o).grownBy w3 v.ownBlock)
    (hat : v'.ownBlock = v.ownBlock ∨ v'.ownBlock = some (W.alloc o).heap.size) : Run W0 fp0 (listT b t base e v' n' xs' :: ts) d al last (w3.setCell ⟨b, 0, none⟩ v') := by
  have hP : Blk W b t #[v] ∧ W.ownsRow base e 1 v n xs := h.thing (t := listT b t base e v n xs) (by simp)
  obtain ⟨hb, hown0⟩ := hP
  have hnv := own_blk_ne hown0 hb hne
  have hb3 : Blk w3 b t #[v] := (hb.alloc o).grown hg (fun e => hnv e.symm)
  have hnv' := own_blk_ne hown hb3 hne
  have hsz : W.heap.size < w3.heap.size := by have := hg.size; simp at this; omega
  have ho : Only (b :: v.ownBlock.toList) W (w3.setCell ⟨b, 0, none⟩ v') := (((Only.refl _ W).alloc o).grown hg (by intro k hk; exact .inl (by simp [hk]))).setCell (.inl (by simp)) _
  refine h.change (t' := listT b t base e v' n' xs') ho ⟨?_, ?_⟩ (fun k hk => ?_)
  · have := hb3.set_ 0 v'
    simpa using this
  · exact own_only hown (Only.setCell (Only.refl [b] w3) (p := ⟨b, 0, none⟩) (.inl (by simp)) v') (by intro k hk hm; simp at hm; subst hm; exact hnv' hk)
  · rcases List.mem_cons.1 hk with rfl | hk
    · exact .inl (by simp [listT])
    · rcases hat with e | e
      · rw [e] at hk
        exact .inl (List.mem_cons_of_mem _ hk)
      · rw [e] at hk
        simp at hk
        refine .inr ⟨by omega, ?_⟩
        have h1 := hown.lt _ e
        simp at h1
        simp
        omega
theorem RunF.rebaseF {w V : World} (h : RunF w fp0 fpa ts d al last W) (ho : Only [] V W) : RunF V (allB fpa ts) fpa ts d al last W :=
  ⟨h.ar, ho.more (by simp), fun k hk => .inl (mem_allB.2 (.inl hk)), fun t ht => ⟨(h.tg t ht).1, fun k hk => ⟨((h.tg t ht).2 k hk).1, .inl (mem_allB.2 (.inr ⟨t, ht, hk⟩)), ((h.tg t ht).2 k hk).2.2⟩⟩, h.pw⟩
/-- A thing that is there already. -/
theorem RunF.adopt (h : RunF W0 fp0 fpa ts d al last W) {t : Thing} (ht : t.P W) (hn : ∀ k, k ∈ t.bs → W0.heap.size ≤ k ∧ k < W.heap.size ∧ k ∉ allB fpa ts) : RunF W0 fp0 fpa (t :: ts) d al last W := by
  refine ⟨h.ar, h.on, h.at_, fun q hq => ?_, List.pairwise_cons.2 ⟨fun q hq k hk hm => (hn k hk).2.2 (mem_allB.2 (.inr ⟨q, hq, hm⟩)), h.pw⟩⟩
  rcases List.mem_cons.1 hq with rfl | hq
  · exact ⟨ht, fun k hk => ⟨fun hm => (hn k hk).2.2 (mem_allB.2 (.inl hm)), .inr (hn k hk).1, (hn k hk).2.1⟩⟩
  · exact h.tg q hq
end
/-- The first odd numbers. -/
def odds (k : Nat) : List Nat := (List.range k).map fun i => 2 * i + 1
theorem odds_len (k : Nat) : (odds k).length = k := by simp [odds]
theorem odds_snoc (k : Nat) : odds (k + 1) = odds k ++ [2 * k + 1] := by simp [odds, List.range_succ]
theorem odds_at {k i : Nat} (h : i < k) : (odds k)[i]? = some (2 * i + 1) := by simp [odds, h]
def nums (l : List Nat) : List Value := l.map fun (x : Nat) => Value.int .i64 (x : Int)
theorem nums_snoc (l : List Nat) (x : Nat) : nums (l ++ [x]) = nums l ++ [.int .i64 (x : Int)] := by simp [nums]
theorem putL_succ (k : Nat) : putL (k + 1) = 2 * k + 1 := by unfold putL; omega
theorem putL_lt (k : Nat) : putL k < 2 * k + 1 := by unfold putL; omega
theorem nxt_put {L : List (List Int)} {last k : Nat} (h : AOk (putA L) last) {c : Nat × List Int} (hn : nxt (putA L) (putL k) = some c) (hk : k ≤ L.length) : k < L.length ∧ ∃ l, L[k]? = some l ∧ c = (2 * k + 1, mkC l) := by
  obtain ⟨h1, h2, h3⟩ := (nxt_some h.so).1 hn
  obtain ⟨j, l, hj, rfl⟩ := putA_mem.1 h1
  have hjl := (List.getElem?_eq_some_iff.1 hj).1
  have h4 : k ≤ j := by unfold putL at h2; dsimp only at h2; omega
  have hkl : k < L.length := by omega
  have h5 := h3 (2 * k + 1, mkC L[k]) (putA_mem.2 ⟨k, _, List.getElem?_eq_getElem hkl, rfl⟩) (by have := putL_lt k; dsimp only; omega)
  dsimp only at h5
  obtain rfl : j = k := by omega
  exact ⟨hkl, l, hj, rfl⟩
theorem nxt_put_end {L : List (List Int)} {k : Nat} (hn : nxt (putA L) (putL k) = none) (hk : k ≤ L.length) : k = L.length := by
  rcases Nat.lt_or_ge k L.length with h | h
  · have := nxt_none.1 hn (2 * k + 1, mkC L[k]) (putA_mem.2 ⟨k, _, List.getElem?_eq_getElem h, rfl⟩)
    have := putL_lt k
    dsimp only at *
    omega
  · omega
/-- The first elements of what was put. -/
def Ph1 (L : List (List Int)) (pre : List Cl) : Prop := pre.map Cl.id = odds pre.length ∧ pre.length ≤ L.length ∧ lastId pre = putL pre.length
theorem Ph1.zero (L : List (List Int)) : Ph1 L [] := ⟨rfl, Nat.zero_le _, rfl⟩
theorem Ph1.step {L : List (List Int)} {pre : List Cl} {last : Nat} (h : Ph1 L pre) (ha : AOk (putA L) last) {y : Cl} (hn : nxt (putA L) (lastId pre) = some (y.id, y.ls)) : pre.length < L.length ∧ y.id = 2 * pre.length + 1 ∧ (∃ l, L[pre.length]? = some l ∧ y.ls = mkC l) ∧ Ph1 L (pre ++ [y]) := by
  obtain ⟨h1, h2, h3⟩ := h
  rw [h3] at hn
  obtain ⟨h4, l, h5, h6⟩ := nxt_put ha hn h2
  injection h6 with h6 h7
  refine ⟨h4, h6, ⟨l, h5, h7⟩, ?_, by simp; omega, ?_⟩
  · rw [List.map_append, List.length_append, List.length_singleton, odds_snoc, h1, List.map_singleton, h6]
  · rw [lastId_snoc, List.length_append, List.length_singleton, putL_succ, h6]
theorem Ph1.end_ {L : List (List Int)} {pre : List Cl} (h : Ph1 L pre) (hn : nxt (putA L) (lastId pre) = none) : pre.length = L.length := by
  rw [h.2.2] at hn
  exact nxt_put_end hn h.2.1
/-- Sorted lists, up to a number. -/
theorem upto_snoc : ∀ {l : List Nat} {p y : Nat}, l.Pairwise (· < ·) → y ∈ l → p < y → (∀ z ∈ l, p < z → y ≤ z) → l.filter (fun z => decide (z ≤ y)) = l.filter (fun z => decide (z ≤ p)) ++ [y]
  | [], _, _, _, h, _, _ => by cases h
  | x :: t, p, y, hs, hy, hp, hm => by
    obtain ⟨h1, h2⟩ := List.pairwise_cons.1 hs
    by_cases hx : x ≤ p
    · have hyt : y ∈ t := by
        rcases List.mem_cons.1 hy with rfl | h
        · omega
        · exact h
      rw [List.filter_cons, if_pos (by simp; omega), List.filter_cons, if_pos (by simp; omega), upto_snoc h2 hyt hp (fun z hz => hm z (by simp [hz]))]
      rfl
    · have h3 := hm x (by simp) (by omega)
      have h4 : y = x := by
        rcases List.mem_cons.1 hy with rfl | h
        · rfl
        · have := h1 y h; omega
      subst h4
      rw [List.filter_cons, if_pos (by simp), List.filter_cons, if_neg (by simp; omega)]
      have e1 : t.filter (fun z => decide (z ≤ y)) = [] := by rw [List.filter_eq_nil_iff]; intro z hz; have := h1 z hz; simp; omega
      have e2 : t.filter (fun z => decide (z ≤ p)) = [] := by rw [List.filter_eq_nil_iff]; intro z hz; have := h1 z hz; simp; omega
      rw [e1, e2]
      rfl
theorem upto_all {l : List Nat} {p : Nat} (h : ∀ z ∈ l, z ≤ p) : l.filter (fun z => decide (z ≤ p)) = l := List.filter_eq_self.2 fun z hz => by simpa using h z hz
/-- What is wanted of the second range. -/
def wantI (ch : Bool) (g a k : Nat) : List Nat := ((List.range k).filter fun i => !ch || decide (i ≠ g) || decide (i ≤ a)).map fun i => 2 * i + 1
def wantF (ch : Bool) (g a k : Nat) : List Nat := wantI ch g a k ++ if ch then [1000] else []
theorem wantI_none (g a k : Nat) : wantI false g a k = odds k := by
  unfold wantI odds
  rw [List.filter_eq_self.2 (fun a h => by rfl)]
theorem wantI_snoc (ch : Bool) (g a k : Nat) : wantI ch g a (k + 1) = wantI ch g a k ++ if (!ch || decide (k ≠ g) || decide (k ≤ a)) = true then [2 * k + 1] else [] := by
  unfold wantI
  rw [List.range_succ, List.filter_append, List.map_append, List.filter_cons]
  congr 1
  by_cases h : (!ch || decide (k ≠ g) || decide (k ≤ a)) = true
  · rw [if_pos h, if_pos h]; rfl
  · rw [if_neg h, if_neg h]; rfl
theorem wantI_len (ch : Bool) (g a k : Nat) : (wantI ch g a k).length ≤ k := by
  unfold wantI
  rw [List.length_map]
  exact Nat.le_trans (List.length_filter_le _ _) (by simp)
theorem mem_wantF {g a k z : Nat} : z ∈ wantF true g a k ↔ (∃ i, i < k ∧ (i ≠ g ∨ i ≤ a) ∧ z = 2 * i + 1) ∨ z = 1000 := by
  unfold wantF wantI
  rw [List.mem_append, List.mem_map]
  simp only [List.mem_filter, List.mem_range, Bool.not_true, Bool.false_or, Bool.or_eq_true, decide_eq_true_eq, if_true, List.mem_singleton]
  constructor
  · rintro (⟨i, ⟨h1, h2⟩, rfl⟩ | h)
    · exact .inl ⟨i, h1, h2, rfl⟩
    · exact .inr h
  · rintro (⟨i, h1, h2, rfl⟩ | h)
    · exact .inl ⟨i, ⟨h1, h2⟩, rfl⟩
    · exact .inr h
theorem wantF_sorted {g a k : Nat} (hk : k ≤ 60) : (wantF true g a k).Pairwise (· < ·) := by
  unfold wantF wantI
  rw [if_pos rfl, List.pairwise_append]
  refine ⟨?_, by simp, fun x hx y hy => ?_⟩
  · rw [List.pairwise_map]
    refine List.Pairwise.filter _ ?_
    exact List.Pairwise.imp (fun h => by omega) List.pairwise_lt_range
  · obtain ⟨i, hi, rfl⟩ := List.mem_map.1 hx
    have := List.mem_range.1 (List.mem_filter.1 hi).1
    rw [List.mem_singleton] at hy
    omega
theorem wantF_first {g a k : Nat} (hk : k ≤ 60) : ∀ j, j ≤ a + 1 → j ≤ k → (wantF true g a k).filter (fun z => decide (z ≤ putL j)) = odds j
  | 0, _, _ => by
    rw [List.filter_eq_nil_iff.2]
    · rfl
    · intro z hz
      rcases mem_wantF.1 hz with ⟨i, _, _, rfl⟩ | rfl <;> simp [putL]
  | j + 1, h1, h2 => by
    have ih := wantF_first (g := g) (a := a) hk j (by omega) (by omega)
    rw [odds_snoc, ← ih, putL_succ]
    refine upto_snoc (wantF_sorted hk) (mem_wantF.2 (.inl ⟨j, by omega, .inr (by omega), rfl⟩)) (putL_lt j) (fun z hz hp => ?_)
    rcases mem_wantF.1 hz with ⟨i, _, _, rfl⟩ | rfl
    · unfold putL at hp; omega
    · omega
/-- What is there behind the change. -/
def alC (L : List (List Int)) (g : Nat) : List (Nat × List Int) := without (putA L) (2 * (g : Int) + 1) ++ [(1000, [5])]
theorem mem_alC {L : List (List Int)} {g : Nat} {c : Nat × List Int} : c ∈ alC L g ↔ (∃ (i : Nat) (l : List Int), L[i]? = some l ∧ i ≠ g ∧ c = (2 * i + 1, mkC l)) ∨ c = (1000, [5]) := by
  unfold alC
  rw [List.mem_append, mem_without, putA_mem, List.mem_singleton]
  constructor
  · rintro (⟨⟨i, l, h1, rfl⟩, h2⟩ | h)
    · exact .inl ⟨i, l, h1, fun e => by subst e; exact h2 (by dsimp only; omega), rfl⟩
    · exact .inr h
  · rintro (⟨i, l, h1, h2, rfl⟩ | h)
    · exact .inl ⟨⟨i, l, h1, rfl⟩, by dsimp only; omega⟩
    · exact .inr h
/-- The elements behind the change. -/
def Ph2 (L : List (List Int)) (g a : Nat) (pre : List Cl) : Prop := pre.map Cl.id = (wantF true g a L.length).filter (fun z => decide (z ≤ lastId pre)) ∧ 2 * a + 1 ≤ lastId pre ∧ a < L.length
theorem Ph2.of1 {L : List (List Int)} {g a : Nat} (hL : L.length ≤ 60) {pre : List Cl} (h : Ph1 L pre) (hp : pre.length = a + 1) : Ph2 L g a pre := by
  obtain ⟨h1, h2, h3⟩ := h
  refine ⟨?_, by rw [h3, hp, putL_succ]; omega, by omega⟩
  rw [h1, h3, hp, wantF_first hL (a + 1) (Nat.le_refl _) (by omega)]
theorem Ph2.step {L : List (List Int)} {g a last : Nat} (hL : L.length ≤ 60) {pre : List Cl} (h : Ph2 L g a pre) (ha : AOk (alC L g) last) {y : Cl} (hn : nxt (alC L g) (lastId pre) = some (y.id, y.ls)) :
    ((∃ (i : Nat) (l : List Int), L[i]? = some l ∧ y.id = 2 * i + 1 ∧ y.ls = mkC l) ∨ y.id = 1000) ∧ Ph2 L g a (pre ++ [y]) := by
  obtain ⟨h1, h2, h3⟩ := h
  obtain ⟨n1, n2, n3⟩ := (nxt_some ha.so).1 hn
  dsimp only at n1 n2 n3
  refine ⟨?_, ?_, by rw [lastId_snoc]; omega, h3⟩
  · rcases mem_alC.1 n1 with ⟨i, l, q1, _, q2⟩ | q
    · injection q2 with q2 q3
      exact .inl ⟨i, l, q1, q2, q3⟩
    · injection q with q _
      exact .inr q
  · rw [lastId_snoc, List.map_append, h1, List.map_singleton]
    refine (upto_snoc (wantF_sorted hL) ?_ (by omega) (fun z hz hp => ?_)).symm
    · rcases mem_alC.1 n1 with ⟨i, l, q1, q4, q2⟩ | q
      · injection q2 with q2 q3
        exact mem_wantF.2 (.inl ⟨i, (List.getElem?_eq_some_iff.1 q1).1, .inl q4, q2⟩)
      · injection q with q _
        exact mem_wantF.2 (.inr q)
    · rcases mem_wantF.1 hz with ⟨i, q1, q2, rfl⟩ | rfl
      · have q3 : i ≠ g := by
          rcases q2 with q2 | q2
          · exact q2
          · omega
        exact n3 (2 * i + 1, mkC L[i]) (mem_alC.2 (.inl ⟨i, _, List.getElem?_eq_getElem q1, q3, rfl⟩)) (by dsimp only; omega)
      · exact n3 (1000, [5]) (mem_alC.2 (.inr rfl)) (by dsimp only; omega)
theorem Ph2.end_ {L : List (List Int)} {g a : Nat} {pre : List Cl} (h : Ph2 L g a pre) (hn : nxt (alC L g) (lastId pre) = none) : pre.map Cl.id = wantF true g a L.length := by
  obtain ⟨h1, h2, h3⟩ := h
  rw [h1]
  refine upto_all fun z hz => ?_
  have n1 := nxt_none.1 hn
  rcases mem_wantF.1 hz with ⟨i, q1, q2, rfl⟩ | rfl
  · by_cases hi : i ≤ a
    · omega
    · have := n1 (2 * i + 1, mkC L[i]) (mem_alC.2 (.inl ⟨i, _, List.getElem?_eq_getElem q1, by omega, rfl⟩))
      dsimp only at this
      omega
  · have := n1 (1000, [5]) (mem_alC.2 (.inr rfl))
    dsimp only at this
    omega
theorem Ph2.len {L : List (List Int)} {g a : Nat} {pre : List Cl} (h : Ph2 L g a pre) : pre.length ≤ L.length + 1 := by
  have h1 : (pre.map Cl.id).length ≤ (wantF true g a L.length).length := by rw [h.1]; exact List.length_filter_le _ _
  rw [List.length_map] at h1
  unfold wantF at h1
  rw [List.length_append] at h1
  have := wantI_len true g a L.length
  simp at h1
  omega
end Go.Proofs.Ytlcfgpkokaiogaa
