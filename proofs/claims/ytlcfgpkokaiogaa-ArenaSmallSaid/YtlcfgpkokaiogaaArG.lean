/- Arenas: what is there is stored anew. -/
import Derived.Test.YtlcfgpkokaiogaaArF
import Derived.Sort.CutIn
import Derived.Test.YtlcfgpkokaiogaaLift2
namespace Go.Proofs.Ytlcfgpkokaiogaa
open Go Go.RowKit Go.Shelf
set_option linter.unusedVariables false
set_option linter.unusedSimpArgs false
set_option maxHeartbeats 4000000
attribute [local go_sem] Oper.semAt_some
theorem Prt.ck {B : Nat} {W W' : World} {base d : Nat} {vs va : Value} {u c l : Int} {ns na : Nat} {xs ys : List Value} (h : Prt W base d vs va u c l ns na xs ys) (k : CellsKept B W W') : Prt W' base d vs va u c l ns na xs ys := ⟨h.hd.ck k, own_ck h.hs k, own_ck h.ha k, h.bd⟩
theorem Prt.only {fp : List Nat} {W W' : World} {base d : Nat} {vs va : Value} {u c l : Int} {ns na : Nat} {xs ys : List Value} (h : Prt W base d vs va u c l ns na xs ys) (ho : Only fp W W') (hn : ∀ k, k ∈ fpOf d vs va → k ∉ fp) : Prt W' base d vs va u c l ns na xs ys :=
  ⟨h.hd.only ho (hn d (mem_fp.2 (.inl rfl))), own_only h.hs ho (fun k hk => hn k (mem_fp.2 (.inr (.inl hk)))), own_only h.ha ho (fun k hk => hn k (mem_fp.2 (.inr (.inr hk)))), h.bd⟩
theorem Prt.lt {W : World} {base d : Nat} {vs va : Value} {u c l : Int} {ns na : Nat} {xs ys : List Value} (h : Prt W base d vs va u c l ns na xs ys) : ∀ k, k ∈ fpOf d vs va → base ≤ k ∧ k < W.heap.size := by
  intro k hk
  rcases mem_fp.1 hk with rfl | hk | hk
  · exact ⟨h.bd, h.hd.lt⟩
  · exact h.hs.lt k hk
  · exact h.ha.lt k hk
/-- The entries of a list of pairs. -/
def ents (pre : List (Nat × En)) : List En := pre.map (·.2)
/-- What the range of move keeps. -/
structure MIn (N : Nat) (w : World) (base d : Nat) (vs va : Value) (u c l : Int) (es : List En) (v2 v3 : Value) (pre : List (Nat × En)) (W : World) : Prop where
  b0 : Blk W N 31 #[.pointer (some ⟨d, 0, none⟩)]
  b1 : Blk W (N + 1) 28 #[v2]
  b2 : Blk W (N + 1 + 1) 37 #[v3]
  b3 : Blk W (N + 1 + 1 + 1) 31 #[.pointer (some ⟨d, 0, none⟩)]
  r2 : W.ownsRow (N + 4) 30 1 v2 (flat (ents pre)).length (lits (flat (ents pre)))
  r3 : W.ownsRow (N + 4) 76 4 v3 pre.length (encN 0 (ents pre))
  hp : Prt W base d vs va u c l (flat es).length es.length (lits (flat es)) (encN 0 es)
  bel : Below w.heap.size w W
  pt : pre = (pls 0 es).take pre.length
def fpM (N : Nat) (v2 v3 : Value) : List Nat := (N + 1) :: (N + 1 + 1) :: (v2.ownBlock.toList ++ v3.ownBlock.toList)
theorem mem_fpM {k N : Nat} {v2 v3 : Value} : k ∈ fpM N v2 v3 ↔ k = N + 1 ∨ k = N + 1 + 1 ∨ v2.ownBlock = some k ∨ v3.ownBlock = some k := by simp [fpM]
theorem MIn.ck {B N : Nat} {w W W' : World} {base d : Nat} {vs va : Value} {u c l : Int} {es : List En} {v2 v3 : Value} {pre : List (Nat × En)} (h : MIn N w base d vs va u c l es v2 v3 pre W) (k : CellsKept B W W') (hB : w.heap.size ≤ B) : MIn N w base d vs va u c l es v2 v3 pre W' :=
  ⟨h.b0.ck k, h.b1.ck k, h.b2.ck k, h.b3.ck k, own_ck h.r2 k, own_ck h.r3 k, h.hp.ck k, below_ck h.bel (Nat.le_refl _) k hB, h.pt⟩
def MI (N : Nat) (w : World) (base d : Nat) (vs va : Value) (u c l : Int) (es : List En) (fp : List Nat) (pre : List (Nat × En)) (W : World) : Prop :=
  ∃ v2 v3, fp = fpM N v2 v3 ∧ MIn N w base d vs va u c l es v2 v3 pre W
/-- Behind a round's assign. -/
def MA (f : Nat × En → Nat → Act) (N0 : Nat) (y : Nat × En) (a' : Act) (W : World) : Prop := ∃ Ne, a' = f y Ne ∧ N0 ≤ Ne ∧ Blk W Ne 76 #[.int .i64 (y.1 : Int), .int .i64 ((y.1 : Int) + (y.2.ls.length : Int)), .int .i64 (y.2.id : Int), .bool false]
theorem own_ma {B : Nat} {f : Nat × En → Nat → Act} {N0 : Nat} {y : Nat × En} {a' : Act} : OwnFrom B (fun (_ : Unit) W => MA f N0 y a' W) :=
  ownFrom_of fun _ W W' k ⟨N, h1, h2, h3⟩ => ⟨N, h1, h2, h3.ck k⟩
/-- What move leaves. -/
def Moved (w : World) (base d : Nat) (vs va : Value) (u c l : Int) (es : List En) (e : Ending) (w' : World) : Prop :=
  (∃ v, e = .returned v) ∧ ∃ v2 v3, Prt w' base d v2 v3 u c l (flat (kept es)).length (kept es).length (lits (flat (kept es))) (encN 0 (kept es)) ∧ Only (fpOf d vs va) w w' ∧ (∀ k, v2.ownBlock = some k → w.heap.size ≤ k) ∧ ∀ k, v3.ownBlock = some k → w.heap.size ≤ k
theorem MIn.go {N : Nat} {w W W' : World} {base d Ne : Nat} {vs va : Value} {u c l : Int} {es : List En} {v2 v3 v2' v3' : Value} {pre pre' : List (Nat × En)} (hI : MIn N w base d vs va u c l es v2 v3 pre W) (hN : N = w.heap.size) (hO : Only (Ne :: fpM N v2 v3) W W') (hNe : N + 4 ≤ Ne)
    (h : ∀ k, k ∈ fpOf d vs va → k < N) (b1 : Blk W' (N + 1) 28 #[v2']) (b2 : Blk W' (N + 1 + 1) 37 #[v3']) (r2 : W'.ownsRow (N + 4) 30 1 v2' (flat (ents pre')).length (lits (flat (ents pre')))) (r3 : W'.ownsRow (N + 4) 76 4 v3' pre'.length (encN 0 (ents pre'))) (pt : pre' = (pls 0 es).take pre'.length) :
    MIn N w base d vs va u c l es v2' v3' pre' W' := by
  have hge : ∀ k, k ∈ Ne :: fpM N v2 v3 → k = N + 1 ∨ k = N + 1 + 1 ∨ N + 4 ≤ k := by
    intro k hk
    rcases List.mem_cons.1 hk with rfl | hk
    · exact .inr (.inr hNe)
    · rcases mem_fpM.1 hk with rfl | rfl | hk | hk
      · exact .inl rfl
      · exact .inr (.inl rfl)
      · exact .inr (.inr (hI.r2.lt k hk).1)
      · exact .inr (.inr (hI.r3.lt k hk).1)
  exact ⟨hI.b0.only hO (fun hk => by have := hge _ hk; omega), b1, b2, hI.b3.only hO (fun hk => by have := hge _ hk; omega), r2, r3, hI.hp.only hO (fun k hk hm => by have := h k hk; have := hge _ hm; omega), hI.bel.trans (hO.below hI.bel.size (fun k hk => by have := hge _ hk; omega)), pt⟩
theorem blk_only1 {W : World} {g i : Nat} {t : TypeId} {cs : Array Value} (h : Blk W g t cs) (j : Nat) (hj : g ≠ j) (u : Value) : Blk (W.setCell ⟨j, i, none⟩ u) g t cs := h.far (p := ⟨j, i, none⟩) hj u
theorem own_set1 {W : World} {base : Nat} {e : TypeId} {size : Nat} {v : Value} {n : Nat} {xs : List Value} (h : W.ownsRow base e size v n xs) (j i : Nat) (hj : ∀ k, v.ownBlock = some k → k ≠ j) (u : Value) : (W.setCell ⟨j, i, none⟩ u).ownsRow base e size v n xs :=
  own_only h (Only.setCell (Only.refl [j] W) (p := ⟨j, i, none⟩) (.inl (by simp)) u) (fun k hk hm => by rw [List.mem_singleton] at hm; exact hj k hk hm)
/-- Behind the first append of a round of move. -/
structure MMid (N Ne : Nat) (v2' v3 : Value) (n' np : Nat) (xs' ys : List Value) (cs : Array Value) (W : World) : Prop where
  b1 : Blk W (N + 1) 28 #[v2']
  b2 : Blk W (N + 1 + 1) 37 #[v3]
  r2 : W.ownsRow (N + 4) 30 1 v2' n' xs'
  r3 : W.ownsRow (N + 4) 76 4 v3 np ys
  be : Blk W Ne 76 cs
theorem move_mid {N Ne : Nat} {W w3 : World} {v2 v2' v3 : Value} {n n' np : Nat} {xs xs' ys : List Value} {cs : Array Value} (h : MMid N Ne v2 v3 n np xs ys cs W) (hN : ∀ k, k ∈ fpM N v2 v3 → k < Ne) (hown : w3.ownsRow (N + 4) 30 1 v2' n' xs') (hg : W.grownBy w3 v2.ownBlock) :
    MMid N Ne v2' v3 n' np xs' ys cs (w3.setCell ⟨N + 1, 0, none⟩ v2') ∧ Only (fpM N v2 v3) W (w3.setCell ⟨N + 1, 0, none⟩ v2') := by
  have hv2 : ∀ k, v2.ownBlock = some k → N + 4 ≤ k ∧ k < Ne := fun k hk => ⟨(h.r2.lt k hk).1, hN k (mem_fpM.2 (.inr (.inr (.inl hk))))⟩
  have f1 : some (N + 1) ≠ v2.ownBlock := fun e => by have := hv2 _ e.symm; omega
  have f2 : some (N + 1 + 1) ≠ v2.ownBlock := fun e => by have := hv2 _ e.symm; omega
  have f3 : some Ne ≠ v2.ownBlock := fun e => by have := hv2 _ e.symm; omega
  have hNe := hN (N + 1) (mem_fpM.2 (.inl rfl))
  refine ⟨⟨?_, blk_only1 (h.b2.grown hg f2) (N + 1) (by omega) _, own_set1 hown (N + 1) 0 (fun k hk => by have := (hown.lt k hk).1; omega) _, own_set1 (own_only h.r3 ((Only.refl v2.ownBlock.toList W).grown hg (fun k hk => .inl (by rw [hk]; simp))) (fun k hk => notin_own (own_kinds h.r3 h.r2 (by decide) k hk))) (N + 1) 0 (fun k hk => by have := (h.r3.lt k hk).1; omega) _, blk_only1 (h.be.grown hg f3) (N + 1) (by omega) _⟩, ?_⟩
  · have := (h.b1.grown hg f1).set_ 0 v2'
    simpa using this
  · exact ((Only.refl _ W).grown hg (fun k hk => .inl (mem_fpM.2 (.inr (.inr (.inl hk)))))).setCell (p := ⟨N + 1, 0, none⟩) (.inl (mem_fpM.2 (.inl rfl))) _
theorem MMid.set {N Ne : Nat} {W : World} {v2 v3 : Value} {n np : Nat} {xs ys : List Value} {cs : Array Value} (h : MMid N Ne v2 v3 n np xs ys cs W) (hN : ∀ k, k ∈ fpM N v2 v3 → k ≠ Ne) (i : Nat) (u : Value) :
    MMid N Ne v2 v3 n np xs ys (cs.setIfInBounds i u) (W.setCell ⟨Ne, i, none⟩ u) :=
  ⟨blk_only1 h.b1 Ne (hN _ (mem_fpM.2 (.inl rfl))) u, blk_only1 h.b2 Ne (hN _ (mem_fpM.2 (.inr (.inl rfl)))) u, own_set1 h.r2 Ne i (fun k hk => hN k (mem_fpM.2 (.inr (.inr (.inl hk))))) u, own_set1 h.r3 Ne i (fun k hk => hN k (mem_fpM.2 (.inr (.inr (.inr hk))))) u, h.be.set_ i u⟩
theorem MMid.alloc {N Ne : Nat} {W : World} {v2 v3 : Value} {n np : Nat} {xs ys : List Value} {cs : Array Value} (h : MMid N Ne v2 v3 n np xs ys cs W) (o : Obj) : MMid N Ne v2 v3 n np xs ys cs (W.alloc o) :=
  ⟨h.b1.alloc o, h.b2.alloc o, own_only h.r2 ((Only.refl [] _).alloc o) (by simp), own_only h.r3 ((Only.refl [] _).alloc o) (by simp), h.be.alloc o⟩
theorem move_end {N Ne : Nat} {W w3 : World} {v2 v3 v3' : Value} {n np np' : Nat} {xs ys ys' : List Value} {cs : Array Value} (h : MMid N Ne v2 v3 n np xs ys cs W) (hN : ∀ k, v3.ownBlock = some k → k ≠ Ne) (hNe : N + 4 ≤ Ne) (hown : w3.ownsRow (N + 4) 76 4 v3' np' ys') (hg : W.grownBy w3 v3.ownBlock) :
    MMid N Ne v2 v3' n np' xs ys' cs (w3.setCell ⟨N + 1 + 1, 0, none⟩ v3') ∧ Only (fpM N (.slice none 0 0) v3) W (w3.setCell ⟨N + 1 + 1, 0, none⟩ v3') := by
  have hv3 : ∀ k, v3.ownBlock = some k → N + 4 ≤ k := fun k hk => (h.r3.lt k hk).1
  have f1 : some (N + 1) ≠ v3.ownBlock := fun e => by have := hv3 _ e.symm; omega
  have f2 : some (N + 1 + 1) ≠ v3.ownBlock := fun e => by have := hv3 _ e.symm; omega
  have f3 : some Ne ≠ v3.ownBlock := fun e => hN _ e.symm rfl
  refine ⟨⟨blk_only1 (h.b1.grown hg f1) (N + 1 + 1) (by omega) _, ?_, own_set1 (own_only h.r2 ((Only.refl v3.ownBlock.toList W).grown hg (fun k hk => .inl (by rw [hk]; simp))) (fun k hk => notin_own (own_kinds h.r2 h.r3 (by decide) k hk))) (N + 1 + 1) 0 (fun k hk => by have := (h.r2.lt k hk).1; omega) _, own_set1 hown (N + 1 + 1) 0 (fun k hk => by have := (hown.lt k hk).1; omega) _, blk_only1 (h.be.grown hg f3) (N + 1 + 1) (by omega) _⟩, ?_⟩
  · have := (h.b2.grown hg f2).set_ 0 v3'
    simpa using this
  · exact ((Only.refl _ W).grown hg (fun k hk => .inl (mem_fpM.2 (.inr (.inr (.inr hk)))))).setCell (p := ⟨N + 1 + 1, 0, none⟩) (.inl (mem_fpM.2 (.inr (.inl rfl)))) _
theorem Reads.take_ {w : World} {B size n : Nat} {A : Option Addr} {xs : List Value} (h : Reads w B size A n xs) (m : Nat) (hm : m ≤ n) : Reads w B size A m (xs.take (m * size)) := by
  refine ⟨by rw [List.length_take, h.1]; exact Nat.min_eq_left (Nat.mul_le_mul_right _ hm), fun h0 => ?_⟩
  obtain ⟨ad, e, hb, hc⟩ := h.2 (by omega)
  refine ⟨ad, e, hb, fun j u hu => hc j u ?_⟩
  rw [List.getElem?_take] at hu
  split at hu
  · exact hu
  · cases hu
theorem sub_reads {W : World} {base n c : Nat} {A : Option Addr} {es : List En} (h : W.ownsRow base 30 1 (.slice A n c) n (lits (flat es))) {k : Nat} {e : En} (hk : es[k]? = some e) :
    off es k + e.ls.length ≤ n ∧ n ≤ c ∧ Reads W W.heap.size 1 (if c = off es k then A else A.map (·.add (off es k))) e.ls.length (lits e.ls) := by
  have hn : n = (flat es).length := by have := h.1; simpa [lits] using this.symm
  have h1 := off_le es k e hk
  have hc := own_cap h
  refine ⟨by omega, hc.1, ?_⟩
  have h2 := ((Reads.of_own h).cut (k := off es k) (cap := c) (by omega) hc.1).take_ e.ls.length (by omega)
  have h3 : List.take (e.ls.length * 1) (List.drop (off es k * 1) (lits (flat es))) = lits e.ls := by
    rw [Nat.mul_one, Nat.mul_one, lits, ← List.map_drop, ← List.map_take]
    congr 1
    rw [flat_split es k e hk, List.drop_left' (by rfl), List.take_left' rfl]
  rw [h3] at h2
  rwa [Nat.mul_one] at h2
theorem fpM_step {N k : Nat} {v2 v3 : Value} (h : k ∈ fpM N (.slice none 0 0) v3) : k ∈ fpM N v2 v3 := by
  rcases mem_fpM.1 h with h | h | h | h
  · exact mem_fpM.2 (.inl h)
  · exact mem_fpM.2 (.inr (.inl h))
  · cases h
  · exact mem_fpM.2 (.inr (.inr (.inr h)))
theorem kept_flat (es : List En) : (flat (kept es)).length ≤ (flat es).length := by
  induction es with
  | nil => exact Nat.le_refl _
  | cons e es ih =>
    unfold kept at ih ⊢
    rw [List.filter_cons]
    split
    · simp only [flat, List.flatMap_cons, List.length_append] at ih ⊢; omega
    · simp only [flat, List.flatMap_cons, List.length_append] at ih ⊢; omega
theorem ents_pls (es : List En) (m : Nat) : ents ((pls 0 es).take m) = (kept es).take m := by
  unfold ents
  rw [List.map_take, pls_kept]
theorem flat_take (es : List En) (m : Nat) : (flat (es.take m)).length ≤ (flat es).length := by
  conv => rhs; rw [← List.take_append_drop m es, flat_append]
  simp
theorem pls_len (es : List En) : (pls 0 es).length ≤ es.length := by
  have := congrArg List.length (pls_kept es 0)
  rw [List.length_map] at this
  rw [this]
  exact List.length_filter_le _ _
theorem pre_few {es : List En} {pre : List (Nat × En)} {y : Nat × En} (hp : pre = (pls 0 es).take pre.length) (hx : (pls 0 es)[pre.length]? = some y) : (flat (ents pre)).length + y.2.ls.length ≤ (flat es).length ∧ pre.length ≤ es.length := by
  have h1 : pre ++ [y] = (pls 0 es).take (pre.length + 1) := by rw [take_snoc hx, ← hp]
  have h2 := congrArg ents h1
  rw [ents_pls] at h2
  have h3 : ents (pre ++ [y]) = ents pre ++ [y.2] := by simp [ents]
  have h4 := flat_take (kept es) (pre.length + 1)
  rw [← h2, h3, flat_append, List.length_append] at h4
  have h5 := kept_flat es
  have h6 := (List.getElem?_eq_some_iff.1 hx).1
  have h7 := pls_len es
  simp [flat] at h4 h5 ⊢
  omega
theorem ne_step {N Ne S : Nat} {v2 v3 v2' : Value} (hfN : ∀ k, k ∈ fpM N v2 v3 → k < Ne) (hat : v2'.ownBlock = v2.ownBlock ∨ v2'.ownBlock = some S) (hS : Ne < S) : ∀ k, k ∈ fpM N v2' v3 → k ≠ Ne := by
  intro k hk
  rcases mem_fpM.1 hk with rfl | rfl | hk | hk
  · have := hfN _ (mem_fpM.2 (.inl rfl)); omega
  · have := hfN _ (mem_fpM.2 (.inr (.inl rfl))); omega
  · rcases hat with e | e
    · rw [e] at hk
      have := hfN _ (mem_fpM.2 (.inr (.inr (.inl hk)))); omega
    · rw [e] at hk
      cases hk
      omega
  · have := hfN _ (mem_fpM.2 (.inr (.inr (.inr hk)))); omega
theorem only_two {fp : List Nat} {W W5 : World} (h : Only fp W W5) (Ne i j : Nat) (a b : Value) : Only (Ne :: fp) W ((W5.setCell ⟨Ne, i, none⟩ a).setCell ⟨Ne, j, none⟩ b) :=
  ((h.more (fun k hk _ => List.mem_cons_of_mem _ hk)).setCell (p := ⟨Ne, i, none⟩) (.inl List.mem_cons_self) _).setCell (p := ⟨Ne, j, none⟩) (.inl List.mem_cons_self) _
theorem move_fin {N Ne : Nat} {w W0 W2 W8 : World} {base d b n2 L : Nat} {vs va : Value} {u c l : Int} {es : List En} {v2 v3 v2' v3' : Value} {pre : List (Nat × En)} {e : En} {fp : List Nat} {cs : Array Value} (hI : MIn N w base d vs va u c l es v2 v3 pre W2) (hN : N = w.heap.size) (hNe : N + 4 ≤ Ne)
    (hbd : ∀ k, k ∈ fpOf d vs va → k < N) (hn2 : n2 = (flat (ents pre)).length) (hL : L = e.ls.length) (hM : MMid N Ne v2' v3' (n2 + L) (pre.length + 1) (lits (flat (ents pre)) ++ lits e.ls) (encN 0 (ents pre) ++ [.int .i64 (n2 : Int), .int .i64 ((n2 : Int) + (L : Int)), .int .i64 (e.id : Int), .bool false]) cs W8)
    (hO : Only (Ne :: fpM N v2 v3) W2 W8) (hx : (pls 0 es)[pre.length]? = some (b, e)) (hg : e.gone = false) (hfp : fp = fpM N v2 v3) (hO01 : Only [] W0 W2) (hN0 : W0.heap.size ≤ Ne)
    (hat2 : v2'.ownBlock = v2.ownBlock ∨ ∃ g, v2'.ownBlock = some g ∧ W0.heap.size ≤ g) (hat3 : v3'.ownBlock = v3.ownBlock ∨ ∃ g, v3'.ownBlock = some g ∧ W0.heap.size ≤ g) :
    Only fp W0 W8 ∧ ∃ fp', MI N w base d vs va u c l es fp' (pre ++ [(b, e)]) W8 ∧ ∀ k, k ∈ fp' → k ∈ fp ∨ W0.heap.size ≤ k := by
  subst hn2 hL hfp
  have h1 : ents (pre ++ [(b, e)]) = ents pre ++ [e] := by simp [ents]
  have h2 : flat (ents (pre ++ [(b, e)])) = flat (ents pre) ++ e.ls := by rw [h1, flat_append]; simp [flat]
  have h3 : encN 0 (ents (pre ++ [(b, e)])) = encN 0 (ents pre) ++ [.int .i64 ((flat (ents pre)).length : Int), .int .i64 (((flat (ents pre)).length : Int) + (e.ls.length : Int)), .int .i64 (e.id : Int), .bool false] := by
    rw [h1, encN_append]; simp [encN, hg]
  refine ⟨(hO01.more (by simp)).then hO (fun k hk hlt => ?_), fpM N v2' v3', ⟨v2', v3', rfl, hI.go hN hO hNe hbd hM.b1 hM.b2 (own_cast hM.r2 (by rw [h2, List.length_append]) (by rw [h2]; simp [lits])) (own_cast hM.r3 (by simp) h3.symm) ?_⟩, fun k hk => ?_⟩
  · rcases List.mem_cons.1 hk with rfl | hk
    · omega
    · exact hk
  · rw [List.length_append, List.length_singleton, take_snoc hx, ← hI.pt]
  · rcases mem_fpM.1 hk with rfl | rfl | hk | hk
    · exact .inl (mem_fpM.2 (.inl rfl))
    · exact .inl (mem_fpM.2 (.inr (.inl rfl)))
    · rcases hat2 with e | ⟨g, e, hg⟩
      · rw [e] at hk
        exact .inl (mem_fpM.2 (.inr (.inr (.inl hk))))
      · rw [e] at hk
        cases hk
        exact .inr hg
    · rcases hat3 with e | ⟨g, e, hg⟩
      · rw [e] at hk
        exact .inl (mem_fpM.2 (.inr (.inr (.inr hk))))
      · rw [e] at hk
        cases hk
        exact .inr hg
theorem only_putObj (W : World) (k : Nat) (o : Obj) : Only [k] W (W.putObj k o) :=
  ⟨rfl, rfl, rfl, by simp, fun j hj hn => World.putObj_heap_other (by simpa using hn)⟩
theorem move_last {w W2 : World} {base d Dd N : Nat} {vs va v2 v3 : Value} {u c l : Int} {es : List En} (hI : MIn N w base d vs va u c l es v2 v3 (pls 0 es) W2) (hN : N = w.heap.size) (hd : d < w.heap.size) (hb : base ≤ d) (hDd : w.heap.size + 4 ≤ Dd) (hDm : W2.heap[Dd]? = some (.deferred (some []))) :
    (((W2.setCell ⟨d, 0, none⟩ v2).setCell ⟨d, 1, none⟩ v3).drew).heap[Dd]? = some (.deferred (some [])) ∧ ∀ v, Moved w base d vs va u c l es (.returned v) ((((W2.setCell ⟨d, 0, none⟩ v2).setCell ⟨d, 1, none⟩ v3).drew).putObj Dd (.deferred none)) := by
  have hek : ents (pls 0 es) = kept es := pls_kept es 0
  have hpl : (pls 0 es).length = (kept es).length := by rw [← hek]; simp [ents]
  have hO : Only [d] W2 (((W2.setCell ⟨d, 0, none⟩ v2).setCell ⟨d, 1, none⟩ v3).drew) := (((Only.refl [d] W2).setCell (p := ⟨d, 0, none⟩) (.inl (by simp)) _).setCell (p := ⟨d, 1, none⟩) (.inl (by simp)) _).drew
  have hd2 := ((hI.hp.hd.set_ 0 v2).set_ 1 v3).drew
  have hr2 := own_only hI.r2 hO (fun k hk hm => by rw [List.mem_singleton] at hm; have := (hI.r2.lt k hk).1; omega)
  have hr3 := own_only hI.r3 hO (fun k hk hm => by rw [List.mem_singleton] at hm; have := (hI.r3.lt k hk).1; omega)
  have hD2 := (hO.block Dd (Array.getElem?_eq_some_iff.1 hDm).1 (by rw [List.mem_singleton]; omega)).trans hDm
  have hbl : Only [d] w (((W2.setCell ⟨d, 0, none⟩ v2).setCell ⟨d, 1, none⟩ v3).drew) := (only_of_below [d] hI.bel).trans hO
  generalize ((W2.setCell ⟨d, 0, none⟩ v2).setCell ⟨d, 1, none⟩ v3).drew = WF at hO hd2 hr2 hr3 hD2 hbl ⊢
  refine ⟨hD2, fun v => ⟨⟨v, rfl⟩, v2, v3, ?_, ?_, fun k hk => by have := (hI.r2.lt k hk).1; omega, fun k hk => by have := (hI.r3.lt k hk).1; omega⟩⟩
  · refine Prt.ck (B := 0) ⟨by simpa using hd2, ?_, ?_, hb⟩ (CellsKept.putObj (B := 0) WF _ hD2 rfl (Nat.zero_le _))
    · rw [hek] at hr2
      exact own_base hr2 (by omega)
    · rw [hek, hpl] at hr3
      exact own_base hr3 (by omega)
  · exact (hbl.more (fun k hk _ => by rw [List.mem_singleton] at hk; subst hk; exact mem_fp.2 (.inl rfl))).then (only_putObj WF Dd _) (fun k hk hlt => by rw [List.mem_singleton] at hk; omega)
set_option maxRecDepth 100000 in
theorem move_in (m : Nat) {w : World} {base d : Nat} {vs va : Value} {u c l : Int} {es : List En} (h : Prt w base d vs va u c l (flat es).length es.length (lits (flat es)) (encN 0 es)) (hf : es.length ≤ 4294967296) (hfl : (flat es).length ≤ 4294967296) :
    CallsIn Fence.wide m Try.prog 39 #[.pointer (some ⟨d, 0, none⟩)] w (Moved w base d vs va u c l es) := by
  obtain ⟨i0, hi, hz0, hz1, hz2⟩ := info_parts info30
  obtain ⟨j0, hj, hj0, hj1, hj2⟩ := info_parts info76
  refine callsIn_of_wp_marks Try.func39 rfl trivial ?_ rfl
  simp only [Try.ntmps39, List.size_toArray, List.length_cons, List.length_nil, Nat.reduceAdd, Nat.reduceSub, Array.replicate_succ, Array.replicate_zero, List.push_toArray, List.append_toArray, List.nil_append, List.cons_append]
  refine wpIn_wide.2 ?_
  go_wp2_with (go_at_call 49; refine (there_ok _ _).mono ?_; rintro e w' ⟨rfl, rfl⟩)
  rename_i hcont
  replace hcont := Lib.hid hcont
  have hA := ((((Below.refl _ w).alloc (Nat.le_refl _) (.cells #[.pointer (some ⟨d, 0, none⟩)] 31)).alloc (by simp) (.cells #[.slice none 0 0] 28)).alloc (by simp; omega) (.cells #[.slice none 0 0] 37)).alloc (by simp; omega) (.cells #[.pointer (some ⟨d, 0, none⟩)] 31)
  have g0 := (((Blk.new w 31 #[.pointer (some ⟨d, 0, none⟩)]).alloc (.cells #[.slice none 0 0] 28)).alloc (.cells #[.slice none 0 0] 37)).alloc (.cells #[.pointer (some ⟨d, 0, none⟩)] 31)
  have g1 := ((Blk.new (w.alloc (.cells #[.pointer (some ⟨d, 0, none⟩)] 31)) 28 #[.slice none 0 0]).alloc (.cells #[.slice none 0 0] 37)).alloc (.cells #[.pointer (some ⟨d, 0, none⟩)] 31)
  have g2 := (Blk.new ((w.alloc (.cells #[.pointer (some ⟨d, 0, none⟩)] 31)).alloc (.cells #[.slice none 0 0] 28)) 37 #[.slice none 0 0]).alloc (.cells #[.pointer (some ⟨d, 0, none⟩)] 31)
  have g3 := Blk.new (((w.alloc (.cells #[.pointer (some ⟨d, 0, none⟩)] 31)).alloc (.cells #[.slice none 0 0] 28)).alloc (.cells #[.slice none 0 0] 37)) 31 #[.pointer (some ⟨d, 0, none⟩)]
  simp only [World.size_alloc] at g1 g2 g3
  have hsz : w.heap.size + 4 = ((((w.alloc (.cells #[.pointer (some ⟨d, 0, none⟩)] 31)).alloc (.cells #[.slice none 0 0] 28)).alloc (.cells #[.slice none 0 0] 37)).alloc (.cells #[.pointer (some ⟨d, 0, none⟩)] 31)).heap.size := by simp
  have hO := h.new hA
  generalize (((w.alloc (.cells #[.pointer (some ⟨d, 0, none⟩)] 31)).alloc (.cells #[.slice none 0 0] 28)).alloc (.cells #[.slice none 0 0] 37)).alloc (.cells #[.pointer (some ⟨d, 0, none⟩)] 31) = W1 at hA g0 g1 g2 g3 hsz hO ⊢
  have hI0 : MI w.heap.size w base d vs va u c l es [w.heap.size + 1, w.heap.size + 1 + 1] [] W1 :=
    ⟨.slice none 0 0, .slice none 0 0, rfl, g0, g1, g2, g3, World.ownsRow_nil _ _ _ _, World.ownsRow_nil _ _ _ _, hO, hA, rfl⟩
  refine (wpIn_wide (n := m)).1 ?_
  refine wpIn_range2 rfl (enters_of Try.func55 (by kernel_rfl) rfl) (seq55 base d (w.heap.size + 1 + 1 + 1) vs va u c l (flat es).length (lits (flat es)) es hf) (fun _ => rfl)
    (MI w.heap.size w base d vs va u c l es) (fun _ _ _ => False)
    (fun fp => ownFrom_of fun s W W' kk ⟨v2, v3, h1, hI⟩ => ⟨v2, v3, h1, hI.ck kk (by omega)⟩) (fun _ => ownFrom_of fun _ _ _ _ h => h) (fun fp pre W ⟨v2, v3, h1, hI⟩ => ⟨hI.b3, hI.hp⟩) [w.heap.size + 1, w.heap.size + 1 + 1] (by simp; omega) hI0
    (fun N0 fp pre y a' W => MA (fun y Ne => { tmps := #[.pointer (some ⟨d, 0, none⟩), .pointer (some ⟨w.heap.size, 0, none⟩), .pointer (some ⟨w.heap.size + 1, 0, none⟩), .pointer (some ⟨w.heap.size + 1 + 1, 0, none⟩), .pointer (some ⟨Ne, 0, none⟩), undef, .pointer (some ⟨d, 0, none⟩), .func (.func 55) #[] #[.pointer (some ⟨w.heap.size + 1 + 1 + 1, 0, none⟩)], .agg #[.int .i64 (y.1 : Int), .int .i64 ((y.1 : Int) + (y.2.ls.length : Int)), .int .i64 (y.2.id : Int), .bool false], undef, undef, undef, undef, undef, undef, undef, undef, undef, undef, undef, undef, undef, undef, undef, undef, undef, undef, undef, undef, undef, undef, undef, undef, undef, undef, undef, undef, undef, undef, undef, undef], defers := [] }) N0 y a' W ∧ (pls 0 es)[pre.length]? = some y) (fun N0 fp pre y a' => ownFrom_of fun _ W W' k ⟨⟨Ne, h1, h2, h3⟩, h4⟩ => ⟨⟨Ne, h1, h2, h3.ck k⟩, h4⟩) ?assign ?body ?done ?hE ?stop
  case assign =>
    intro l2 m2 fp pre y W0 W2 K hI0 hI hO01 hX hK
    obtain ⟨hx, hpt⟩ := hX
    obtain ⟨b, e⟩ := y
    have hs2 := hO01.size
    have hfin := hK _ (W2.alloc (.cells #[.int .i64 (b : Int), .int .i64 ((b : Int) + (e.ls.length : Int)), .int .i64 (e.id : Int), .bool false] 76)) ((Only.refl [] _).alloc _) (by obtain ⟨v2, v3, h1, hI⟩ := hI; exact ⟨v2, v3, h1, hI.ck (B := W2.heap.size) ⟨rfl, rfl, rfl, by simp, fun k o hk _ => (Below.heap_alloc _ _ _ (Array.getElem?_eq_some_iff.1 hk).1).trans hk⟩ (by have := hI.bel.size; omega)⟩) ⟨⟨W2.heap.size, rfl, hs2, Blk.new _ _ _⟩, hx⟩
    replace hfin := Lib.hid hfin
    clear hK hx hpt hI hI0
    simp only [encE]
    gi_wp2
    exact hfin.out
  case body =>
    rintro l2 m2 fp pre ⟨b, e⟩ a' W0 W2 hI0 hO01 hI ⟨⟨Ne, rfl, hNe, hbe⟩, hx⟩
    obtain ⟨v2, v3, hfp, hI⟩ := hI
    have hNe4 : w.heap.size + 4 ≤ Ne := by
      obtain ⟨v2, v3, rfl, hI⟩ := hI0
      have := hI.b3.lt
      omega
    have hfl : ∀ k, k ∈ fp → k < W0.heap.size := by
      obtain ⟨v2, v3, rfl, hI⟩ := hI0
      intro k hk
      have := hI.b1.lt
      have := hI.b2.lt
      rcases mem_fpM.1 hk with rfl | rfl | hk | hk
      · omega
      · omega
      · exact (hI.r2.lt k hk).2
      · exact (hI.r3.lt k hk).2
    clear hI0
    have hpf := Lib.hid (pre_few hI.pt hx)
    obtain ⟨k, hk, rfl, hg⟩ := pls_at es 0 _ (List.mem_of_getElem? hx)
    rw [Nat.zero_add] at *
    dsimp only at hk hg hbe hx ⊢
    obtain ⟨As, cs, rfl⟩ := own_form hI.hp.hs
    obtain ⟨A3, c3, rfl⟩ := own_form hI.r3
    obtain ⟨A2, c2, rfl⟩ := own_form hI.r2
    obtain ⟨hs1, hs2, hsr⟩ := sub_reads hI.hp.hs hk
    obtain ⟨ns, hns⟩ : ∃ ns, ns = (flat es).length := ⟨_, rfl⟩
    obtain ⟨n2, hn2⟩ : ∃ n2, n2 = (flat (ents pre)).length := ⟨_, rfl⟩
    obtain ⟨b, hbk⟩ : ∃ b, b = off es k := ⟨_, rfl⟩
    obtain ⟨L, hL⟩ : ∃ L, L = e.ls.length := ⟨_, rfl⟩
    rw [← hL] at hs1 hsr hbe ⊢
    rw [← hbk] at hs1 hsr hbe hx ⊢
    have q0 := hI.b0.cell 0
    have q1 := hI.b1.cell 0
    have q4 := hI.hp.c0
    have q5 := hbe.cell 0
    have q6 := hbe.cell 1
    rw [← hns] at hs1 hs2 q4
    rw [← hn2] at q1
    simp only [List.getElem?_toArray, List.getElem?_cons_zero, List.getElem?_cons_succ] at q0 q1 q5 q6
    rw [← hn2] at hI hfp
    have hI' := Lib.hid hI
    have hL' := Lib.hid hL
    have hb32 : ns ≤ 4294967296 := by omega
    have t0 : 0 ≤ (b : Int) := by omega
    have t1 : (b : Int) + (L : Int) ≤ (ns : Int) := by omega
    have t2 : (b : Int) ≤ (cs : Int) := by omega
    have t3 : (b : Int) + (L : Int) ≤ (cs : Int) := by omega
    have t4 : (b : Int) ≤ (b : Int) + (L : Int) := by omega
    have t5 : 0 ≤ (b : Int) + (L : Int) := by omega
    have hk' := Lib.hid hk
    have hx' := Lib.hid hx
    have hns' := Lib.hid hns
    have hn2' := Lib.hid hn2
    have hbk' := Lib.hid hbk
    clear hk hx hns hI hn2 hbk hL
    have hlen : ((b : Int) + (L : Int)).toNat - b = L := by omega
    replace hlen := Lib.hid hlen
    have hr2 := hI'.out.r2
    rw [← hn2'.out] at hr2
    have hfew : n2 + L ≤ 4294967296 := by have h1 := hpf.out.1; dsimp only at h1; have := hn2'.out; have := hL'.out; omega
    have hNl : w.heap.size + 1 < W2.heap.size := hI'.out.b1.lt
    have hnv : some (w.heap.size + 1) ≠ (Value.slice A2 n2 c2).ownBlock := fun e => by have := (hr2.lt _ e.symm).1; omega
    have hb1 := hI'.out.b1
    have hM : MMid w.heap.size Ne (.slice A2 n2 c2) (.slice A3 pre.length c3) n2 pre.length (lits (flat (ents pre))) (encN 0 (ents pre)) #[.int .i64 (b : Int), .int .i64 ((b : Int) + (L : Int)), .int .i64 (e.id : Int), .bool false] W2.drew := ⟨hb1.drew, hI'.out.b2.drew, hr2, hI'.out.r3, hbe.drew⟩
    have hfN : ∀ k, k ∈ fpM w.heap.size (.slice A2 n2 c2) (.slice A3 pre.length c3) → k < Ne := fun k hk => by
      have := hfl k (by rw [hfp]; exact hk)
      omega
    have hneN3 : ∀ k, (Value.slice A3 pre.length c3).ownBlock = some k → k ≠ Ne := fun k hk => by have := hfN k (mem_fpM.2 (.inr (.inr (.inr hk)))); omega
    have hnv3 : some (w.heap.size + 1 + 1) ≠ (Value.slice A3 pre.length c3).ownBlock := fun e => by have := (hI'.out.r3.lt _ e.symm).1; omega
    have hpl : pre.length ≤ 4294967296 := by have := hpf.out.2; omega
    have hbdl : ∀ k, k ∈ fpOf d (.slice As (flat es).length cs) va → k < w.heap.size := fun k hk => (h.lt k hk).2
    have hs02 : W0.heap.size ≤ W2.drew.heap.size := hO01.size
    replace hM := Lib.hid hM
    by_cases hcb : cs = b
    · rw [if_pos hcb] at hsr
      subst hcb
      obtain rfl : L = 0 := by omega
      gi_upto_region 6 with (fail)
      rename_i hnext
      replace hnext := Lib.hid hnext
      refine wpIn_round_tail 12 (by kernel_rfl) (by kernel_rfl) (by kernel_rfl) (fun _ _ h => h) ?_
      simp only [List.take_succ_cons, List.take_zero, List.drop_succ_cons, List.drop_zero]
      repeat still_step
      try refine wpStill_nil ?_
      change wpList _ _ _ _ _ W2.drew
      go_wp2_with (at_builtin; refine wpList_append_any _ rfl _ _ 28 rfl (w.heap.size + 4) 30 i0 _ 1 8 Try.underlying28 hi hz0 hz1 hz2 rfl (by omega) (.slice A2 n2 c2) n2 (lits (flat (ents pre))) rfl hr2 W2.heap.size _ _ _ (lits e.ls) rfl hsr.drew (by simp [lits, Value.oneCell']) (by simp only [maxLen]; omega) (by omega) (by show _ ≤ W2.heap.size; have := hI'.out.b3.lt; omega) ?_; intro v' w3 hown hgrow hat; obtain ⟨A5, c5, rfl⟩ := own_form hown; obtain ⟨hM5, hO5⟩ := move_mid hM.out hfN hown hgrow; have hb5 := hb1.drew.grown hgrow hnv; have b5 := hb5.cell 0; have fz5 := hb5.frozen 0; simp only [List.getElem?_toArray, List.getElem?_cons_zero] at b5)
      refine hnext.out _ _ ?_
      clear hnext b5 fz5 hb5 hown hgrow
      try simp only [Nat.add_zero] at hM5 hO5 hat
      generalize hW5 : w3.setCell ⟨w.heap.size + 1, 0, none⟩ _ = W5 at *
      clear hW5
      have p1 := hM5.b1.cell 0
      have p2 := hM5.b2.cell 0
      have e0 := hM5.be.cell 0
      have e1 := hM5.be.cell 1
      have e2 := hM5.be.cell 2
      have e3 := hM5.be.cell 3
      have f0 := hM5.be.frozen 0
      have f1 := hM5.be.frozen 1
      have lN := hM5.be.lt
      simp only [List.getElem?_toArray, List.getElem?_cons_zero, List.getElem?_cons_succ] at p1 p2 e0 e1 e2 e3
      replace hM5 := Lib.hid hM5
      replace hO5 := Lib.hid hO5
      replace hat := Lib.hid hat
      gi_upto_region 8 with (fail)
      have hneN := ne_step hfN hat.out (by show Ne < W2.heap.size; exact hbe.lt)
      have hM6 := (hM5.out.set (Ne := Ne) hneN 0 (.int .i64 (n2 : Int))).set (Ne := Ne) hneN 1 (.int .i64 (n2 : Int))
      have hO6 : Only (Ne :: fpM w.heap.size (.slice A2 n2 c2) (.slice A3 pre.length c3)) W2 ((W5.setCell ⟨Ne, 0, none⟩ (.int .i64 (n2 : Int))).setCell ⟨Ne, 1, none⟩ (.int .i64 (n2 : Int))) := only_two hO5.out.undrew Ne 0 1 _ _
      generalize hW6 : (W5.setCell ⟨Ne, 0, none⟩ (.int .i64 (n2 : Int))).setCell ⟨Ne, 1, none⟩ (.int .i64 (n2 : Int)) = W6 at *
      clear hW6 p1 p2 e0 e1 e2 e3 f0 f1 lN
      have p2 := hM6.b2.cell 0
      have e0 := hM6.be.cell 0
      have e1 := hM6.be.cell 1
      have e2 := hM6.be.cell 2
      have e3 := hM6.be.cell 3
      have lN := hM6.be.lt
      have l2 := hM6.b2.lt
      simp only [List.getElem?_toArray, List.getElem?_cons_zero, List.getElem?_cons_succ, List.setIfInBounds_toArray, List.set_cons_zero, List.set_cons_succ] at p2 e0 e1 e2 e3
      replace hM6 := Lib.hid hM6
      replace hO6 := Lib.hid hO6
      refine wpIn_round_lit (by kernel_rfl) (fun _ _ h => h) ?_
      go_wp2_with (at_builtin; refine wpList_append_any _ rfl _ _ 37 rfl (w.heap.size + 4) 76 j0 _ 4 32 Try.underlying37 hj hj0 hj1 hj2 rfl (by omega) (.slice A3 pre.length c3) pre.length (encN 0 (ents pre)) rfl (hM6.out.alloc _).r3 (W6.heap.size + 1) (some ⟨W6.heap.size, 0, none⟩) 1 1 [.int .i64 (n2 : Int), .int .i64 (n2 : Int), .int .i64 (e.id : Int), .bool false] rfl (lit_readsN W6 76 _ 4 rfl) (by simp [Value.oneCell']) (by simp only [maxLen]; omega) (by omega) (by simp; omega) ?_; intro v8 w7 hown hgrow hat3; obtain ⟨A8, c8, rfl⟩ := own_form hown; obtain ⟨hM8, hO8⟩ := move_end (hM6.out.alloc (.cells #[.int .i64 (n2 : Int), .int .i64 (n2 : Int), .int .i64 (e.id : Int), .bool false] 76)) hneN3 hNe4 hown hgrow; have hb8 := (hM6.out.b2.alloc (.cells #[.int .i64 (n2 : Int), .int .i64 (n2 : Int), .int .i64 (e.id : Int), .bool false] 76)).grown hgrow hnv3; have b8 := hb8.cell 0; have fz8 := hb8.frozen 0; simp only [List.getElem?_toArray, List.getElem?_cons_zero] at b8)
      have hM9 : MMid w.heap.size Ne (.slice A5 n2 c5) (.slice A8 (pre.length + 1) c8) (n2 + 0) (pre.length + 1) (lits (flat (ents pre)) ++ lits e.ls) (encN 0 (ents pre) ++ [.int .i64 (n2 : Int), .int .i64 ((n2 : Int) + ((0 : Nat) : Int)), .int .i64 (e.id : Int), .bool false]) ((#[.int .i64 (cs : Int), .int .i64 ((cs : Int) + ((0 : Nat) : Int)), .int .i64 (e.id : Int), .bool false].setIfInBounds 0 (.int .i64 (n2 : Int))).setIfInBounds 1 (.int .i64 (n2 : Int))) (w7.setCell ⟨w.heap.size + 1 + 1, 0, none⟩ (.slice A8 (pre.length + 1) c8)) := by simpa using hM8
      exact move_fin hI'.out rfl hNe4 hbdl hn2'.out hL'.out hM9 (hO6.out.trans (((Only.refl _ W6).alloc _).trans ((hO8.more (fun k hk _ => List.mem_cons_of_mem _ (fpM_step hk)))))) hx'.out hg hfp hO01 hNe (hat.out.imp (fun h => h) fun h => ⟨_, h, hs02⟩) (hat3.imp (fun h => h) fun h => ⟨_, h, by have := hO6.out.size; simp; omega⟩)
    · rw [if_neg hcb] at hsr
      gi_upto_region 6 with (fail)
      rename_i hnext
      replace hnext := Lib.hid hnext
      refine wpIn_round_tail 12 (by kernel_rfl) (by kernel_rfl) (by kernel_rfl) (fun _ _ h => h) ?_
      simp only [List.take_succ_cons, List.take_zero, List.drop_succ_cons, List.drop_zero]
      repeat still_step
      try refine wpStill_nil ?_
      change wpList _ _ _ _ _ W2.drew
      rw [hlen.out]
      go_wp2_with (at_builtin; refine wpList_append_any _ rfl _ _ 28 rfl (w.heap.size + 4) 30 i0 _ 1 8 Try.underlying28 hi hz0 hz1 hz2 rfl (by omega) (.slice A2 n2 c2) n2 (lits (flat (ents pre))) rfl hr2 W2.heap.size _ _ _ (lits e.ls) rfl hsr.drew (by simp [lits, Value.oneCell']) (by simp only [maxLen]; omega) (by omega) (by show _ ≤ W2.heap.size; have := hI'.out.b3.lt; omega) ?_; intro v' w3 hown hgrow hat; obtain ⟨A5, c5, rfl⟩ := own_form hown; obtain ⟨hM5, hO5⟩ := move_mid hM.out hfN hown hgrow; have hb5 := hb1.drew.grown hgrow hnv; have b5 := hb5.cell 0; have fz5 := hb5.frozen 0; simp only [List.getElem?_toArray, List.getElem?_cons_zero] at b5)
      refine hnext.out _ _ ?_
      clear hnext b5 fz5 hb5 hown hgrow
      try simp only [Nat.add_zero] at hM5 hO5 hat
      generalize hW5 : w3.setCell ⟨w.heap.size + 1, 0, none⟩ _ = W5 at *
      clear hW5
      have p1 := hM5.b1.cell 0
      have p2 := hM5.b2.cell 0
      have e0 := hM5.be.cell 0
      have e1 := hM5.be.cell 1
      have e2 := hM5.be.cell 2
      have e3 := hM5.be.cell 3
      have f0 := hM5.be.frozen 0
      have f1 := hM5.be.frozen 1
      have lN := hM5.be.lt
      simp only [List.getElem?_toArray, List.getElem?_cons_zero, List.getElem?_cons_succ] at p1 p2 e0 e1 e2 e3
      replace hM5 := Lib.hid hM5
      replace hO5 := Lib.hid hO5
      replace hat := Lib.hid hat
      gi_upto_region 8 with (fail)
      have hneN := ne_step hfN hat.out (by show Ne < W2.heap.size; exact hbe.lt)
      obtain ⟨X, hX⟩ : ∃ X : Int, X = ((n2 : Int) + (L : Int)) := ⟨_, rfl⟩
      have hM6 := (hM5.out.set (Ne := Ne) hneN 0 (.int .i64 (n2 : Int))).set (Ne := Ne) hneN 1 (.int .i64 ((n2 : Int) + (L : Int)))
      have hO6 : Only (Ne :: fpM w.heap.size (.slice A2 n2 c2) (.slice A3 pre.length c3)) W2 ((W5.setCell ⟨Ne, 0, none⟩ (.int .i64 (n2 : Int))).setCell ⟨Ne, 1, none⟩ (.int .i64 ((n2 : Int) + (L : Int)))) := only_two hO5.out.undrew Ne 0 1 _ _
      rw [← hX] at hM6 hO6 ⊢
      replace hX := Lib.hid hX
      generalize hW6 : (W5.setCell ⟨Ne, 0, none⟩ (.int .i64 (n2 : Int))).setCell ⟨Ne, 1, none⟩ (.int .i64 X) = W6 at *
      clear hW6 p1 p2 e0 e1 e2 e3 f0 f1 lN
      have p2 := hM6.b2.cell 0
      have e0 := hM6.be.cell 0
      have e1 := hM6.be.cell 1
      have e2 := hM6.be.cell 2
      have e3 := hM6.be.cell 3
      have lN := hM6.be.lt
      have l2 := hM6.b2.lt
      simp only [List.getElem?_toArray, List.getElem?_cons_zero, List.getElem?_cons_succ, List.setIfInBounds_toArray, List.set_cons_zero, List.set_cons_succ] at p2 e0 e1 e2 e3
      replace hM6 := Lib.hid hM6
      replace hO6 := Lib.hid hO6
      refine wpIn_round_lit (by kernel_rfl) (fun _ _ h => h) ?_
      go_wp2_with (at_builtin; refine wpList_append_any _ rfl _ _ 37 rfl (w.heap.size + 4) 76 j0 _ 4 32 Try.underlying37 hj hj0 hj1 hj2 rfl (by omega) (.slice A3 pre.length c3) pre.length (encN 0 (ents pre)) rfl (hM6.out.alloc _).r3 (W6.heap.size + 1) (some ⟨W6.heap.size, 0, none⟩) 1 1 [.int .i64 (n2 : Int), .int .i64 X, .int .i64 (e.id : Int), .bool false] rfl (lit_readsN W6 76 _ 4 rfl) (by simp [Value.oneCell']) (by simp only [maxLen]; omega) (by omega) (by simp; omega) ?_; intro v8 w7 hown hgrow hat3; obtain ⟨A8, c8, rfl⟩ := own_form hown; obtain ⟨hM8, hO8⟩ := move_end (hM6.out.alloc (.cells #[.int .i64 (n2 : Int), .int .i64 X, .int .i64 (e.id : Int), .bool false] 76)) hneN3 hNe4 hown hgrow; have hb8 := (hM6.out.b2.alloc (.cells #[.int .i64 (n2 : Int), .int .i64 X, .int .i64 (e.id : Int), .bool false] 76)).grown hgrow hnv3; have b8 := hb8.cell 0; have fz8 := hb8.frozen 0; simp only [List.getElem?_toArray, List.getElem?_cons_zero] at b8)
      have hM9 := hM8
      rw [hX.out] at hM9
      exact move_fin hI'.out rfl hNe4 hbdl hn2'.out hL'.out hM9 (hO6.out.trans (((Only.refl _ W6).alloc _).trans ((hO8.more (fun k hk _ => List.mem_cons_of_mem _ (fpM_step hk)))))) hx'.out hg hfp hO01 hNe (hat.out.imp (fun h => h) fun h => ⟨_, h, hs02⟩) (hat3.imp (fun h => h) fun h => ⟨_, h, by have := hO6.out.size; simp; omega⟩)
  case done =>
    rintro Dd fp xs W2 hDd rfl ⟨v2, v3, rfl, hI⟩ hDm
    have hek : ents (pls 0 es) = kept es := pls_kept es 0
    obtain ⟨A2, c2, rfl⟩ := own_form hI.r2
    obtain ⟨A3, c3, rfl⟩ := own_form hI.r3
    obtain ⟨As, cs, rfl⟩ := own_form hI.hp.hs
    obtain ⟨Aa, ca, rfl⟩ := own_form hI.hp.ha
    refine hcont.out _ _ ?_
    clear hcont
    have q0 := hI.b0.cell 0
    have q1 := hI.b1.cell 0
    have q2 := hI.b2.cell 0
    have fz0 := hI.hp.hd.frozen 0
    have fz1 := hI.hp.hd.frozen 1
    have c0 := hI.hp.c0
    have c1 := hI.hp.c1
    simp only [List.getElem?_toArray, List.getElem?_cons_zero] at q0 q1 q2
    have ld : d < w.heap.size := h.hd.lt
    have hL := move_last hI rfl ld h.bd (by omega) hDm
    clear hek
    have hI' := Lib.hid hI
    replace hL := Lib.hid hL
    clear hI
    refine wp_region_noPanic ?_
    go_region_law (fail)
    all_goals exact leaves_one hL.out.1 ⟨.tuple #[], by simp [results, Try.results39, go_sem], hL.out.2 _⟩
  case hE => exact fun _ _ _ _ _ _ _ _ h => h
  case stop =>
    rintro Dd c' pre W2 hDd hI hDm
    exact hI.elim
theorem move_ok {w : World} {base d : Nat} {vs va : Value} {u c l : Int} {es : List En} (h : Prt w base d vs va u c l (flat es).length es.length (lits (flat es)) (encN 0 es)) (hf : es.length ≤ 4294967296) (hfl : (flat es).length ≤ 4294967296) :
    Calls Try.prog 39 #[.pointer (some ⟨d, 0, none⟩)] w (Moved w base d vs va u c l es) := callsIn_wide.1 (move_in 3 h hf hfl)
end Go.Proofs.Ytlcfgpkokaiogaa
