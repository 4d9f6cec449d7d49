/- Trails: what Down yields while the trail goes back; what the second range keeps. -/
import Derived.Test.YtkedepkhcbhcdaaTrlR
import Derived.Test.YtkedepkhcbhcdaaJoin
namespace Go.Proofs.Ytkedepkhcbhcdaa
open Go Go.RowKit Go.Shelf
set_option linter.unusedVariables false
set_option linter.unusedSimpArgs false
set_option maxHeartbeats 4000000
/-- What is yielded from the last place down, the first j places of it. -/
def wnt (ls : List Int) (mm s : Nat) : Nat → List Int
  | 0 => []
  | j + 1 => wnt ls mm s j ++ (if s = 0 ∨ j < s ∨ ls.length - 1 - j < mm then (ls[ls.length - 1 - j]?).toList else [])
theorem wnt_len (ls : List Int) (mm s : Nat) : ∀ j, (wnt ls mm s j).length ≤ j
  | 0 => Nat.le_refl _
  | j + 1 => by
    have := wnt_len ls mm s j
    unfold wnt
    rw [List.length_append]
    split
    · cases ls[ls.length - 1 - j]? <;> simp <;> omega
    · simp; omega
theorem wnt_skip (ls : List Int) (mm s : Nat) (hs : s ≠ 0) {j : Nat} (hj : s ≤ j) : ∀ n, mm + (j + n) ≤ ls.length → wnt ls mm s (j + n) = wnt ls mm s j
  | 0, _ => rfl
  | n + 1, h => by
    rw [show j + (n + 1) = (j + n) + 1 from rfl]
    show wnt ls mm s (j + n) ++ _ = _
    rw [if_neg (by omega), List.append_nil]
    exact wnt_skip ls mm s hs hj n (by omega)
theorem wnt_take (ls : List Int) (mm s : Nat) {j : Nat} {x : Int} (h : s = 0 ∨ j < s ∨ ls.length - 1 - j < mm) (hx : ls[ls.length - 1 - j]? = some x) : wnt ls mm s (j + 1) = wnt ls mm s j ++ [x] := by
  rw [wnt, if_pos h, hx]; rfl
theorem wnt_pass (ls : List Int) (mm s : Nat) {j : Nat} (h : ¬ (s = 0 ∨ j < s ∨ ls.length - 1 - j < mm)) : wnt ls mm s (j + 1) = wnt ls mm s j := by
  rw [wnt, if_neg h, List.append_nil]
/-- What is told of the elements that came. -/
structure Came (D : Trl) (k s mm : Nat) (pre : List (Nat × Int)) (D' : Trl) : Prop where
  le : lastI D.its.length pre ≤ D.its.length
  map : pre.map (·.2) = wnt (lits D) mm s (D.its.length - lastI D.its.length pre)
  before : s = 0 ∨ pre.length < s → D' = D ∧ pre.length = D.its.length - lastI D.its.length pre
  behind : s ≠ 0 ∧ s ≤ pre.length → D' = bck D k ∧ lastI D.its.length pre + s ≤ D.its.length
theorem Came.len {D D' : Trl} {k s mm : Nat} {pre : List (Nat × Int)} (h : Came D k s mm pre D') : pre.length ≤ D.its.length := by
  have h1 := wnt_len (lits D) mm s (D.its.length - lastI D.its.length pre)
  rw [← h.map, List.length_map] at h1
  omega
theorem Came.zero {D : Trl} {k s mm : Nat} : Came D k s mm [] D :=
  ⟨Nat.le_refl _, by simp [lastI, wnt], fun _ => ⟨rfl, by simp [lastI]⟩, fun h => absurd h.2 (by simp; omega)⟩
/-- One more element. -/
theorem Came.step {D D' : Trl} {k s mm : Nat} {pre : List (Nat × Int)} (h : Came D k s mm pre D') (hmm : (bck D k).its = D.its.take mm) (hml : mm ≤ D.its.length) {y : Nat × Int} (hy : y.1 + 1 = min (lastI D.its.length pre) (lits D').length) (hx : (lits D')[y.1]? = some y.2) :
    Came D k s mm (pre ++ [y]) (if pre.length + 1 = s then bck D k else D') ∧ y.1 < D.its.length := by
  have hl : lastI D.its.length (pre ++ [y]) = y.1 := lastI_snoc _ _ _
  have hle := h.le
  have hpl : (pre ++ [y]).length = pre.length + 1 := by simp
  have hyl : y.1 < D.its.length := by omega
  refine ⟨?_, hyl⟩
  have key : pre.map (·.2) ++ [y.2] = wnt (lits D) mm s (D.its.length - y.1) ∧ (s = 0 ∨ pre.length < s → y.1 + 1 = lastI D.its.length pre) := by
    by_cases hb : s = 0 ∨ pre.length < s
    · obtain ⟨rfl, h2⟩ := h.before hb
      rw [lits_len] at hy
      have e1 : y.1 + 1 = lastI D'.its.length pre := by omega
      refine ⟨?_, fun _ => e1⟩
      have e2 : D'.its.length - y.1 = pre.length + 1 := by omega
      have e3 : (lits D').length - 1 - pre.length = y.1 := by rw [lits_len]; omega
      rw [e2, wnt_take (lits D') mm s (j := pre.length) (x := y.2) (hb.elim .inl (fun e => .inr (.inl e))) (by rw [e3]; exact hx), h.map, ← h2]
    · obtain ⟨rfl, h2⟩ := h.behind (by omega)
      have e0 : (lits (bck D k)).length = mm := by rw [lits_len, hmm, List.length_take]; omega
      rw [e0] at hy
      refine ⟨?_, fun hc => absurd hc hb⟩
      have e4 : (lits D)[y.1]? = some y.2 := by
        have : lits (bck D k) = (lits D).take mm := by rw [lits, hmm, List.map_take]; rfl
        rw [this, List.getElem?_take, if_pos (by omega)] at hx
        exact hx
      have e3 : (lits D).length - 1 - (D.its.length - y.1 - 1) = y.1 := by rw [lits_len]; omega
      have e5 : D.its.length - y.1 = (D.its.length - y.1 - 1) + 1 := by omega
      rw [e5, wnt_take (lits D) mm s (j := D.its.length - y.1 - 1) (x := y.2) (by rw [e3]; omega) (by rw [e3]; exact e4)]
      have e6 : D.its.length - y.1 - 1 = (D.its.length - lastI D.its.length pre) + (lastI D.its.length pre - y.1 - 1) := by omega
      rw [e6]
      by_cases hq : lastI D.its.length pre ≤ mm
      · have e7 : lastI D.its.length pre - y.1 - 1 = 0 := by omega
        rw [e7, Nat.add_zero, h.map]
      · rw [wnt_skip _ _ _ (by omega) (by omega) _ (by rw [lits_len]; omega), h.map]
  refine ⟨by rw [hl]; omega, by rw [hl, List.map_append, ← key.1]; rfl, fun hb => ?_, fun hb => ?_⟩
  · rw [hpl] at hb ⊢
    have h2 := h.before (by omega)
    have h3 := key.2 (by omega)
    rw [hl, if_neg (by omega)]
    exact ⟨h2.1, by omega⟩
  · rw [hpl] at hb
    rw [hl]
    by_cases he : pre.length + 1 = s
    · have h2 := h.before (by omega)
      have h3 := key.2 (by omega)
      rw [if_pos he]
      exact ⟨rfl, by omega⟩
    · have h2 := h.behind (by omega)
      rw [if_neg he]
      exact ⟨h2.1, by omega⟩
theorem Came.end_ {D D' : Trl} {k s mm : Nat} {pre : List (Nat × Int)} (h : Came D k s mm pre D') (hmm : (bck D k).its = D.its.take mm) (hml : mm ≤ D.its.length) (he : min (lastI D.its.length pre) (lits D').length = 0) :
    pre.map (·.2) = wnt (lits D) mm s D.its.length := by
  have hle := h.le
  rw [h.map]
  by_cases h0 : lastI D.its.length pre = 0
  · rw [h0]; rfl
  · by_cases hb : s = 0 ∨ pre.length < s
    · obtain ⟨rfl, h2⟩ := h.before hb
      rw [lits_len] at he
      omega
    · obtain ⟨rfl, h2⟩ := h.behind (by omega)
      have e0 : (lits (bck D k)).length = mm := by rw [lits_len, hmm, List.length_take]; omega
      have e6 : D.its.length = (D.its.length - lastI D.its.length pre) + lastI D.its.length pre := by omega
      have := wnt_skip (lits D) mm s (by omega) (j := D.its.length - lastI D.its.length pre) (by omega) (lastI D.its.length pre) (by rw [lits_len]; omega)
      rw [← e6] at this
      exact this.symm
/-- What the second range keeps. -/
structure DIn (w0 : World) (L p q d : Nat) (A1 : Option Addr) (c1 : Nat) (A2 : Option Addr) (c2 : Nat) (D : Trl) (st : Int) (k s mm : Nat) (v : Value) (fpT : List Nat) (D' : Trl) (pre : List (Nat × Int)) (W : World) : Prop where
  down : Blk W (q + 1) 39 #[v]
  row : W.ownsRow (q + 1 + 1 + 1) 27 1 v pre.length (litV (pre.map (·.2)))
  apart : ∀ i, v.ownBlock = some i → i ∉ fpT
  trail : Trail W w0.heap.size d fpT D'
  far : ∀ i, i ∈ fpT → i < p ∨ q + 1 + 1 + 1 ≤ i
  below : Below w0.heap.size w0 W
  all : W.ownsRow w0.heap.size 27 1 (.slice A1 D.its.length c1) D.its.length (litV (lits D)) ∧ ∀ i, (Value.slice A1 D.its.length c1).ownBlock = some i → i ∉ fpT ∧ i < p
  lvl : W.ownsRow w0.heap.size 3 1 (.slice A2 D.its.length c2) D.its.length (litV (lvls D)) ∧ ∀ i, (Value.slice A2 D.its.length c2).ownBlock = some i → i ∉ fpT ∧ i < p
  b18 : Blk W q 3 #[.int .i64 k]
  bt : Blk W (q + 1 + 1) 23 #[.pointer (some ⟨d, 0, none⟩)]
  b9 : Blk W p 23 #[.pointer (some ⟨d, 0, none⟩)]
  b10 : Blk W (p + 1) 39 #[.slice A1 D.its.length c1]
  b6 : Blk W L 5 #[.int .u8 st]
  b8 : Blk W (L + 1) 4 #[.bool false]
  ord : L + 1 < w0.heap.size ∧ w0.heap.size ≤ p ∧ p + 1 < q
  came : Came D k s mm pre D'
def fpD (q : Nat) (v : Value) (fpT : List Nat) : List Nat := (q + 1) :: (v.ownBlock.toList ++ fpT)
section
variable {w0 W W' : World} {L p q d c1 c2 k s mm : Nat} {A1 A2 : Option Addr} {D D' : Trl} {st : Int} {v : Value} {fpT : List Nat} {pre : List (Nat × Int)}
theorem DIn.ck {B : Nat} (h : DIn w0 L p q d A1 c1 A2 c2 D st k s mm v fpT D' pre W) (kk : CellsKept B W W') (hB : w0.heap.size ≤ B) : DIn w0 L p q d A1 c1 A2 c2 D st k s mm v fpT D' pre W' :=
  ⟨h.down.ck kk, own_ck h.row kk, h.apart, h.trail.ck kk, h.far, below_ck h.below (Nat.le_refl _) kk hB, ⟨own_ck h.all.1 kk, h.all.2⟩, ⟨own_ck h.lvl.1 kk, h.lvl.2⟩, h.b18.ck kk, h.bt.ck kk, h.b9.ck kk, h.b10.ck kk, h.b6.ck kk, h.b8.ck kk, h.ord, h.came⟩
/-- The new row is grown. -/
theorem DIn.grown {v' : Value} {y : Nat × Int} (h : DIn w0 L p q d A1 c1 A2 c2 D st k s mm v fpT D' pre W) (hO : Only ((q + 1) :: v.ownBlock.toList) W W') (hd : Blk W' (q + 1) 39 #[v']) (hr : W'.ownsRow (q + 1 + 1 + 1) 27 1 v' (pre.length + 1) (litV (pre.map (·.2)) ++ [.int .i64 y.2]))
    (hat : v'.ownBlock = v.ownBlock ∨ ∃ i, v'.ownBlock = some i ∧ W.heap.size ≤ i) :
    Blk W' (q + 1) 39 #[v'] ∧ W'.ownsRow (q + 1 + 1 + 1) 27 1 v' (pre ++ [y]).length (litV ((pre ++ [y]).map (·.2))) ∧ (∀ i, v'.ownBlock = some i → i ∉ fpT) ∧ Trail W' w0.heap.size d fpT D' ∧ Below w0.heap.size w0 W' ∧
    W'.ownsRow w0.heap.size 27 1 (.slice A1 D.its.length c1) D.its.length (litV (lits D)) ∧ W'.ownsRow w0.heap.size 3 1 (.slice A2 D.its.length c2) D.its.length (litV (lvls D)) ∧
    Blk W' q 3 #[.int .i64 k] ∧ Blk W' (q + 1 + 1) 23 #[.pointer (some ⟨d, 0, none⟩)] ∧ Blk W' p 23 #[.pointer (some ⟨d, 0, none⟩)] ∧ Blk W' (p + 1) 39 #[.slice A1 D.its.length c1] ∧ Blk W' L 5 #[.int .u8 st] ∧ Blk W' (L + 1) 4 #[.bool false] := by
  obtain ⟨o1, o2, o3⟩ := h.ord
  have hfar : ∀ i, i ∈ (q + 1) :: v.ownBlock.toList → i = q + 1 ∨ (q + 1 + 1 + 1 ≤ i ∧ i ∉ fpT) := by
    intro i hi
    rcases List.mem_cons.1 hi with rfl | hi
    · exact .inl rfl
    · have hv : v.ownBlock = some i := by simpa using hi
      exact .inr ⟨(h.row.lt i hv).1, h.apart i hv⟩
  have hbx : ∀ i, i < q + 1 + 1 + 1 → i ≠ q + 1 → i ∉ (q + 1) :: v.ownBlock.toList := by
    intro i h1 h2 hm
    have := hfar i hm
    omega
  refine ⟨hd, own_cast hr (by simp) (by simp [litV]), fun i hi hm => ?_, h.trail.keep hO (fun i hi hm => ?_), h.below.trans (hO.below h.below.size (fun i hi => by have := hfar i hi; omega)), own_only h.all.1 hO (fun i hi => hbx i (by have := (h.all.2 i hi).2; omega) (by have := (h.all.2 i hi).2; omega)),
    own_only h.lvl.1 hO (fun i hi => hbx i (by have := (h.lvl.2 i hi).2; omega) (by have := (h.lvl.2 i hi).2; omega)), h.b18.only hO (hbx _ (by omega) (by omega)), h.bt.only hO (hbx _ (by omega) (by omega)), h.b9.only hO (hbx _ (by omega) (by omega)), h.b10.only hO (hbx _ (by omega) (by omega)), h.b6.only hO (hbx _ (by omega) (by omega)), h.b8.only hO (hbx _ (by omega) (by omega))⟩
  · rcases hat with e | ⟨i', e, hge⟩
    · exact h.apart i (by rw [← e]; exact hi) hm
    · rw [e] at hi
      injection hi with hi
      have := (h.trail.ge i hm).2
      omega
  · rcases hfar i hm with rfl | ⟨_, hn⟩
    · have := h.far _ hi
      omega
    · exact hn hi
theorem DIn.next {v' : Value} {y : Nat × Int} {W6 : World} {fp' : List Nat} {D2 : Trl} (h : DIn w0 L p q d A1 c1 A2 c2 D st k s mm v fpT D' pre W) (hO : Only ((q + 1) :: v.ownBlock.toList) W W') (hd : Blk W' (q + 1) 39 #[v']) (hr : W'.ownsRow (q + 1 + 1 + 1) 27 1 v' (pre.length + 1) (litV (pre.map (·.2)) ++ [.int .i64 y.2]))
    (hat : v'.ownBlock = v.ownBlock ∨ ∃ i, v'.ownBlock = some i ∧ W.heap.size ≤ i) (hO6 : Only fpT W' W6) (hf : ∀ i, i ∈ fp' → i ∈ fpT ∨ W'.heap.size ≤ i) (ht : Trail W6 w0.heap.size d fp' D2) (hc : Came D k s mm (pre ++ [y]) D2) :
    Only (fpD q v fpT) W W6 ∧ DIn w0 L p q d A1 c1 A2 c2 D st k s mm v' fp' D2 (pre ++ [y]) W6 ∧ ∀ i, i ∈ fpD q v' fp' → i ∈ fpD q v fpT ∨ W.heap.size ≤ i := by
  obtain ⟨g1, g2, g3, g4, g5, g6, g7, g8, g9, g10, g11, g12, g13⟩ := h.grown (y := y) hO hd hr hat
  obtain ⟨o1, o2, o3⟩ := h.ord
  have hbx : ∀ i, i < q + 1 + 1 + 1 → p ≤ i ∨ i < w0.heap.size → i ∉ fpT := by
    intro i h1 h2 hm
    have := h.far i hm
    have := (h.trail.ge i hm).1
    omega
  have hq3 : q + 1 + 1 + 1 ≤ W'.heap.size := by have := g9.lt; omega
  have hnf : ∀ i, i < W'.heap.size → i ∉ fpT → i ∉ fp' := by
    intro i h1 h2 hm
    rcases hf i hm with h3 | h3
    · exact h2 h3
    · omega
  refine ⟨?_, ⟨g1.only hO6 (hbx _ (by omega) (by omega)), own_only g2 hO6 g3, fun i hi hm => hnf i (g2.lt i hi).2 (g3 i hi) hm, ht, fun i hi => ?_, g5.trans (hO6.below g5.size (fun i hi => (h.trail.ge i hi).1)),
    ⟨own_only g6 hO6 (fun i hi => (h.all.2 i hi).1), fun i hi => ⟨hnf i (g6.lt i hi).2 (h.all.2 i hi).1, (h.all.2 i hi).2⟩⟩, ⟨own_only g7 hO6 (fun i hi => (h.lvl.2 i hi).1), fun i hi => ⟨hnf i (g7.lt i hi).2 (h.lvl.2 i hi).1, (h.lvl.2 i hi).2⟩⟩,
    g8.only hO6 (hbx _ (by omega) (by omega)), g9.only hO6 (hbx _ (by omega) (by omega)), g10.only hO6 (hbx _ (by omega) (by omega)), g11.only hO6 (hbx _ (by omega) (by omega)), g12.only hO6 (hbx _ (by omega) (by omega)), g13.only hO6 (hbx _ (by omega) (by omega)), h.ord, hc⟩, fun i hi => ?_⟩
  · refine (hO.more (fq := fpD q v fpT) (fun i hi _ => ?_)).then hO6 (fun i hi _ => ?_)
    · rcases List.mem_cons.1 hi with rfl | hi
      · simp [fpD]
      · exact List.mem_cons_of_mem _ (List.mem_append_left _ hi)
    · exact List.mem_cons_of_mem _ (List.mem_append_right _ hi)
  · rcases hf i hi with h3 | h3
    · exact h.far i h3
    · exact .inr (by omega)
  · rcases List.mem_cons.1 hi with rfl | hi
    · exact .inl (by simp [fpD])
    · rcases List.mem_append.1 hi with hi | hi
      · have hv : v'.ownBlock = some i := by simpa using hi
        rcases hat with e | ⟨i', e, hge⟩
        · rw [e] at hv
          exact .inl (List.mem_cons_of_mem _ (List.mem_append_left _ (by simp [hv])))
        · rw [e] at hv
          injection hv with hv
          exact .inr (by omega)
      · rcases hf i hi with h3 | h3
        · exact .inl (List.mem_cons_of_mem _ (List.mem_append_right _ h3))
        · exact .inr (by have := hO.size; omega)
theorem DIn.notin (h : DIn w0 L p q d A1 c1 A2 c2 D st k s mm v fpT D' pre W) {i : Nat} {x : Option (List Deferred)} (hi : W.heap[i]? = some (.deferred x)) : i ∉ fpD q v fpT := by
  intro hm
  have hc : ∀ o, W.heap[i]? = some o → o.isCells = true := by
    intro o ho
    rcases List.mem_cons.1 hm with rfl | hm
    · exact blk_cells h.down ho
    · rcases List.mem_append.1 hm with hm | hm
      · exact own_cells h.row (by simpa using hm) ho
      · exact h.trail.cells i o hm ho
  have := hc _ hi
  cases this
theorem DIn.new (h : DIn w0 L p q d A1 c1 A2 c2 D st k s mm v fpT D' pre W) (hb : Below W.heap.size W W') : DIn w0 L p q d A1 c1 A2 c2 D st k s mm v fpT D' pre W' :=
  ⟨h.down.below hb h.down.lt, row_new h.row hb, h.apart, h.trail.new hb, h.far, below_and h.below hb, ⟨row_new h.all.1 hb, h.all.2⟩, ⟨row_new h.lvl.1 hb, h.lvl.2⟩, h.b18.below hb h.b18.lt, h.bt.below hb h.bt.lt, h.b9.below hb h.b9.lt, h.b10.below hb h.b10.lt, h.b6.below hb h.b6.lt, h.b8.below hb h.b8.lt, h.ord, h.came⟩
end
/-- The trail of literals 1, 2 .. -/
def frT (c : Nat) : Trl := { n := 8, its := (List.range c).map (fun (i : Nat) => ⟨(i : Int) + 1, 0, 0⟩), st := [0] }
theorem frT_next : ∀ c, 1 ≤ c → c < 8 → asgE (frT c) ((c : Int) + 1) 0 = 0 ∧ asgD (frT c) ((c : Int) + 1) 0 = frT (c + 1) := by
  intro c h1 h2
  have h : c = 1 ∨ c = 2 ∨ c = 3 ∨ c = 4 ∨ c = 5 ∨ c = 6 ∨ c = 7 := by omega
  rcases h with rfl | rfl | rfl | rfl | rfl | rfl | rfl <;> exact ⟨by decide, rfl⟩
theorem frT_at {c i : Nat} {x : Int} (h : (lits (frT c))[i]? = some x) : x = (i : Int) + 1 := by
  simp [lits, frT] at h
  obtain ⟨j, hj, rfl⟩ := h
  rw [List.getElem?_eq_some_iff] at hj
  obtain ⟨h1, h2⟩ := hj
  simp at h2
  omega
theorem frT_len (c : Nat) : (lits (frT c)).length = c := by simp [lits, frT]
end Go.Proofs.Ytkedepkhcbhcdaa
