/- Arenas: Add. -/
import Derived.Test.YtlcfgpkokaiogaaArC
import Derived.Test.YtlcfgpkokaiogaaApp2
import Derived.StillTailTactics
namespace Go.Proofs.Ytlcfgpkokaiogaa
open Go Go.RowKit
set_option linter.unusedVariables false
set_option linter.unusedSimpArgs false
set_option maxHeartbeats 4000000
theorem notin_own {v : Value} {g : Nat} (h : v.ownBlock ≠ some g) : g ∉ v.ownBlock.toList := by
  intro hm
  rw [Option.mem_toList] at hm
  exact h hm
theorem own_kinds {w : World} {base : Nat} {e e' : TypeId} {size size' n n' : Nat} {v v' : Value} {xs xs' : List Value} (h : w.ownsRow base e size v n xs) (h' : w.ownsRow base e' size' v' n' xs') (hne : e ≠ e') : ∀ k, v.ownBlock = some k → v'.ownBlock ≠ some k := by
  intro k hk hk'
  obtain ⟨c1, f1, e1⟩ := Lib.ownsRow_kind h k hk
  obtain ⟨c2, f2, e2⟩ := Lib.ownsRow_kind h' k hk'
  rw [e1] at e2
  cases e2
  exact hne rfl
/-- An arena whose parts are written one by one. -/
structure Prt (W : World) (base d : Nat) (vs va : Value) (u c l : Int) (ns na : Nat) (xs ys : List Value) : Prop where
  hd : Blk W d 39 #[vs, va, .int .i64 u, .int .i64 c, .int .i64 l, .bool true]
  hs : W.ownsRow base 30 1 vs ns xs
  ha : W.ownsRow base 76 4 va na ys
  bd : base ≤ d
section
variable {W W' w1 : World} {base d : Nat} {vs va v' : Value} {u c l u' c' l' : Int} {ns na n' : Nat} {xs ys xs' : List Value}
theorem Arm.prt {es : List En} {last : Nat} (h : Arm W base d vs va es last) : Prt W base d vs va (usedL (als es) : Int) ((als es).length : Int) (last : Int) (flat es).length es.length (lits (flat es)) (encN 0 es) := ⟨h.hd, h.hs, h.ha, h.bd⟩
theorem Prt.new (h : Prt W base d vs va u c l ns na xs ys) (hb : Below W.heap.size W W') : Prt W' base d vs va u c l ns na xs ys :=
  ⟨h.hd.below hb h.hd.lt, own_only h.hs (only_of_below [] hb) (by simp), own_only h.ha (only_of_below [] hb) (by simp), h.bd⟩
theorem Prt.drew (h : Prt W base d vs va u c l ns na xs ys) : Prt W.drew base d vs va u c l ns na xs ys := ⟨h.hd, h.hs, h.ha, h.bd⟩
theorem Prt.alloc (h : Prt W base d vs va u c l ns na xs ys) (o : Obj) : Prt (W.alloc o) base d vs va u c l ns na xs ys := h.new ((Below.refl _ _).alloc (Nat.le_refl _) _)
theorem Prt.c0 (h : Prt W base d vs va u c l ns na xs ys) : W.cell? ⟨d, 0, none⟩ = some vs := by simpa using h.hd.cell 0
theorem Prt.c1 (h : Prt W base d vs va u c l ns na xs ys) : W.cell? ⟨d, 1, none⟩ = some va := by simpa using h.hd.cell 1
theorem Prt.c2 (h : Prt W base d vs va u c l ns na xs ys) : W.cell? ⟨d, 2, none⟩ = some (.int .i64 u) := by simpa using h.hd.cell 2
theorem Prt.c3 (h : Prt W base d vs va u c l ns na xs ys) : W.cell? ⟨d, 3, none⟩ = some (.int .i64 c) := by simpa using h.hd.cell 3
theorem Prt.c4 (h : Prt W base d vs va u c l ns na xs ys) : W.cell? ⟨d, 4, none⟩ = some (.int .i64 l) := by simpa using h.hd.cell 4
theorem Prt.ne0 (h : Prt W base d vs va u c l ns na xs ys) : vs.ownBlock ≠ some d := own_blk_ne h.hs h.hd (by decide)
theorem Prt.ne1 (h : Prt W base d vs va u c l ns na xs ys) : va.ownBlock ≠ some d := own_blk_ne h.ha h.hd (by decide)
/-- The store is another one. -/
theorem Prt.app0 (h : Prt W base d vs va u c l ns na xs ys) (hown : w1.ownsRow base 30 1 v' n' xs') (hg : W.grownBy w1 vs.ownBlock) :
    Prt (w1.setCell ⟨d, 0, none⟩ v') base d v' va u c l n' na xs' ys ∧ Only (fpOf d vs va) W (w1.setCell ⟨d, 0, none⟩ v') := by
  have hg0 : Only vs.ownBlock.toList W w1 := (Only.refl _ W).grown hg (fun k hk => .inl (by rw [hk]; simp))
  have hd1 := h.hd.only hg0 (notin_own h.ne0)
  have ha1 := own_only h.ha hg0 (fun k hk => notin_own (own_kinds h.ha h.hs (by decide) k hk))
  have hO : Only [d] w1 (w1.setCell ⟨d, 0, none⟩ v') := (Only.refl _ _).setCell (.inl (by simp)) _
  refine ⟨⟨by have := hd1.set_ 0 v'; simpa using this, own_only hown hO (fun k hk hm => ?_), own_only ha1 hO (fun k hk hm => ?_), h.bd⟩, ?_⟩
  · rw [List.mem_singleton] at hm; subst hm
    exact own_blk_ne hown hd1 (by decide) hk
  · rw [List.mem_singleton] at hm; subst hm
    exact own_blk_ne ha1 hd1 (by decide) hk
  · exact (hg0.more (fun k hk _ => mem_fp.2 (.inr (.inl (by simpa using hk))))).setCell (p := ⟨d, 0, none⟩) (.inl (mem_fp.2 (.inl rfl))) _
/-- The entries are others. -/
theorem Prt.app1 (h : Prt W base d vs va u c l ns na xs ys) (hown : w1.ownsRow base 76 4 v' n' xs') (hg : W.grownBy w1 va.ownBlock) :
    Prt (w1.setCell ⟨d, 1, none⟩ v') base d vs v' u c l ns n' xs xs' ∧ Only (fpOf d vs va) W (w1.setCell ⟨d, 1, none⟩ v') := by
  have hg0 : Only va.ownBlock.toList W w1 := (Only.refl _ W).grown hg (fun k hk => .inl (by rw [hk]; simp))
  have hd1 := h.hd.only hg0 (notin_own h.ne1)
  have hs1 := own_only h.hs hg0 (fun k hk => notin_own (own_kinds h.hs h.ha (by decide) k hk))
  have hO : Only [d] w1 (w1.setCell ⟨d, 1, none⟩ v') := (Only.refl _ _).setCell (.inl (by simp)) _
  refine ⟨⟨by have := hd1.set_ 1 v'; simpa using this, own_only hs1 hO (fun k hk hm => ?_), own_only hown hO (fun k hk hm => ?_), h.bd⟩, ?_⟩
  · rw [List.mem_singleton] at hm; subst hm
    exact own_blk_ne hs1 hd1 (by decide) hk
  · rw [List.mem_singleton] at hm; subst hm
    exact own_blk_ne hown hd1 (by decide) hk
  · exact (hg0.more (fun k hk _ => mem_fp.2 (.inr (.inr (by simpa using hk))))).setCell (p := ⟨d, 1, none⟩) (.inl (mem_fp.2 (.inl rfl))) _
/-- A cell of the head is written. -/
theorem Prt.cellOnly (h : Prt W base d vs va u c l ns na xs ys) (i : Nat) (x : Value) : Only (fpOf d vs va) W (W.setCell ⟨d, i, none⟩ x) := (Only.refl _ _).setCell (p := ⟨d, i, none⟩) (.inl (mem_fp.2 (.inl rfl))) _
theorem Prt.rows (h : Prt W base d vs va u c l ns na xs ys) (i : Nat) (x : Value) : (W.setCell ⟨d, i, none⟩ x).ownsRow base 30 1 vs ns xs ∧ (W.setCell ⟨d, i, none⟩ x).ownsRow base 76 4 va na ys := by
  have hO : Only [d] W (W.setCell ⟨d, i, none⟩ x) := (Only.refl _ _).setCell (.inl (by simp)) _
  refine ⟨own_only h.hs hO (fun k hk hm => ?_), own_only h.ha hO (fun k hk hm => ?_)⟩
  · rw [List.mem_singleton] at hm; subst hm
    exact h.ne0 hk
  · rw [List.mem_singleton] at hm; subst hm
    exact h.ne1 hk
theorem Prt.set2 (h : Prt W base d vs va u c l ns na xs ys) (u' : Int) : Prt (W.setCell ⟨d, 2, none⟩ (.int .i64 u')) base d vs va u' c l ns na xs ys :=
  ⟨by have := h.hd.set_ 2 (.int .i64 u'); simpa using this, (h.rows 2 _).1, (h.rows 2 _).2, h.bd⟩
theorem Prt.set3 (h : Prt W base d vs va u c l ns na xs ys) (c' : Int) : Prt (W.setCell ⟨d, 3, none⟩ (.int .i64 c')) base d vs va u c' l ns na xs ys :=
  ⟨by have := h.hd.set_ 3 (.int .i64 c'); simpa using this, (h.rows 3 _).1, (h.rows 3 _).2, h.bd⟩
theorem Prt.set4 (h : Prt W base d vs va u c l ns na xs ys) (l' : Int) : Prt (W.setCell ⟨d, 4, none⟩ (.int .i64 l')) base d vs va u c l' ns na xs ys :=
  ⟨by have := h.hd.set_ 4 (.int .i64 l'); simpa using this, (h.rows 4 _).1, (h.rows 4 _).2, h.bd⟩
end
theorem lit_readsN (W : World) (e : TypeId) (xs : List Value) (size : Nat) (hl : xs.length = size) : Reads (W.alloc (.cells xs.toArray e)) (W.heap.size + 1) size (some ⟨W.heap.size, 0, none⟩) 1 xs := ⟨by omega, fun _ => ⟨_, rfl, by simp, fun j u hu => by
  have h0 := (Blk.new W e xs.toArray).cell j
  rw [Addr.add_lit, Nat.zero_add, h0]
  simpa using hu⟩⟩
/-- An arena between its new entry and its numbers. -/
def AddMid (W1 : World) (base d : Nat) (vs va : Value) (us ct last ns na : Nat) (xs ys : List Value) (wx : World) : Prop :=
  ∃ A9 k9, Prt wx base d vs (.slice A9 (na + 1) k9) us ct last ns (na + 1) xs ys ∧ Only (fpOf d vs va) W1 wx ∧ ((Value.slice A9 (na + 1) k9).ownBlock = va.ownBlock ∨ ∃ g, (Value.slice A9 (na + 1) k9).ownBlock = some g ∧ W1.heap.size ≤ g)
def AddEnd (W1 : World) (base d : Nat) (vs va : Value) (u c l : Int) (ns na : Nat) (xs ys : List Value) (wx : World) : Prop :=
  Prt wx base d vs va u c l ns na xs ys ∧ Only (fpOf d vs va) W1 wx
/-- What a call that writes leaves. -/
def Wrote (w : World) (base d : Nat) (fp : List Nat) (al : List (Nat × List Int)) (last : Nat) (r : Value) (e : Ending) (w' : World) : Prop := e = .returned r ∧ ∃ fp', Arena w' base d fp' al last ∧ (∀ k, k ∈ fp' → k ∈ fp ∨ w.heap.size ≤ k) ∧ Only fp w w'
theorem fp_step {d N N' : Nat} {vs va vs' va' : Value} {fp : List Nat} (hs : vs'.ownBlock = vs.ownBlock ∨ ∃ g, vs'.ownBlock = some g ∧ N ≤ g) (ha : va'.ownBlock = va.ownBlock ∨ ∃ g, va'.ownBlock = some g ∧ N ≤ g) (hN : N' ≤ N) (h : ∀ k, k ∈ fpOf d vs va → k ∈ fp ∨ N' ≤ k) :
    ∀ k, k ∈ fpOf d vs' va' → k ∈ fp ∨ N' ≤ k := by
  intro k hk
  rcases mem_fp.1 hk with rfl | hk | hk
  · exact h k (mem_fp.2 (.inl rfl))
  · rcases hs with e | ⟨g, e, hg⟩
    · rw [e] at hk
      exact h k (mem_fp.2 (.inr (.inl hk)))
    · rw [e] at hk
      cases hk
      exact .inr (by omega)
  · rcases ha with e | ⟨g, e, hg⟩
    · rw [e] at hk
      exact h k (mem_fp.2 (.inr (.inr hk)))
    · rw [e] at hk
      cases hk
      exact .inr (by omega)
theorem add_fin {w W1 W2 wx : World} {base d ns na us ct n last : Nat} {A0 A1 A5 A9 : Option Addr} {k0 k1 k5 k9 : Nat} {es : List En} {l : List Int} {id : Nat}
    (h1 : ns = (flat es).length ∧ na = es.length ∧ us = usedL (als es) ∧ ct = (als es).length ∧ l.length = n ∧ Ok (es ++ [⟨id, l, false⟩]) id)
    (hat : (Value.slice A5 (ns + n) k5).ownBlock = (Value.slice A0 ns k0).ownBlock ∨ (Value.slice A5 (ns + n) k5).ownBlock = some w.heap.size) (hO1 : Only (fpOf d (.slice A0 ns k0) (.slice A1 na k1)) w W1)
    (hat2 : (Value.slice A9 (na + 1) k9).ownBlock = (Value.slice A1 na k1).ownBlock ∨ ∃ g, (Value.slice A9 (na + 1) k9).ownBlock = some g ∧ W1.heap.size ≤ g) (hO2 : Only (fpOf d (.slice A5 (ns + n) k5) (.slice A1 na k1)) W1 W2)
    (hP : Prt wx base d (.slice A5 (ns + n) k5) (.slice A9 (na + 1) k9) ((us : Int) + n) ((ct : Int) + 1) id (ns + n) (na + 1) (lits (flat es) ++ lits l) (encN 0 es ++ [.int .i64 ns, .int .i64 ((ns : Int) + n), .int .i64 id, .bool false]))
    (hO : Only (fpOf d (.slice A5 (ns + n) k5) (.slice A9 (na + 1) k9)) W2 wx) :
    ∃ fp', Arena wx base d fp' (als es ++ [(id, l)]) id ∧ (∀ k, k ∈ fp' → k ∈ fpOf d (.slice A0 ns k0) (.slice A1 na k1) ∨ w.heap.size ≤ k) ∧ Only (fpOf d (.slice A0 ns k0) (.slice A1 na k1)) w wx := by
  obtain ⟨rfl, rfl, rfl, rfl, rfl, hok⟩ := h1
  have f1 := fp_step (fp := fpOf d (.slice A0 (flat es).length k0) (.slice A1 es.length k1)) (N := w.heap.size) (N' := w.heap.size) (va := .slice A1 es.length k1) (va' := .slice A1 es.length k1) (hat.imp (fun h => h) fun h => ⟨_, h, Nat.le_refl _⟩) (.inl rfl) (Nat.le_refl _) (fun k hk => .inl hk)
  have f2 := fp_step (N := W1.heap.size) (vs' := .slice A5 ((flat es).length + l.length) k5) (.inl rfl) hat2 hO1.size f1
  have e1 : als (es ++ [⟨id, l, false⟩]) = als es ++ [(id, l)] := by rw [als_append]; rfl
  have e2 : usedL (als (es ++ [⟨id, l, false⟩])) = usedL (als es) + l.length := by rw [e1, usedL_append]; simp [usedL]
  have e3 : flat (es ++ [⟨id, l, false⟩]) = flat es ++ l := by rw [flat_append]; simp [flat]
  have e4 : encN 0 (es ++ [⟨id, l, false⟩]) = encN 0 es ++ [.int .i64 ((flat es).length : Int), .int .i64 (((flat es).length : Int) + (l.length : Int)), .int .i64 (id : Int), .bool false] := by rw [encN_append]; simp [encN]
  refine ⟨_, ⟨_, _, es ++ [⟨id, l, false⟩], ⟨?_, own_cast hP.hs (by rw [e3, List.length_append]) (by rw [e3]; simp [lits]), own_cast hP.ha (by simp) e4.symm, hP.bd, hok⟩, e1, rfl⟩, f2, ?_⟩
  · have := hP.hd
    rw [e2, e1, List.length_append]
    simpa using this
  · refine (hO1.then hO2 (fun k hk hlt => ?_)).then hO (fun k hk hlt => ?_)
    · rcases f1 k hk with h | h
      · exact h
      · omega
    · rcases f2 k hk with h | h
      · exact h
      · omega
section
variable {w : World} {base d : Nat} {vs va : Value} {es : List En} {last : Nat}
set_option maxRecDepth 100000 in
theorem add_yes (h : Arm w base d vs va es last) {A : Option Addr} {n c B : Nat} {l : List Int} (hrd : Reads w B 1 A n (lits l)) (hB : B ≤ w.heap.size) (hl : ClOk l) (id : Nat) (h1 : last < id) (h2 : id ≤ 1073741824) (hu : usedL (als es) + l.length ≤ 1048576) :
    Calls Try.prog 14 #[.pointer (some ⟨d, 0, none⟩), .int .i64 (id : Int), .slice A n c] w (Wrote w base d (fpOf d vs va) (als es ++ [(id, l)]) id (.int .i64 0)) := by
  obtain ⟨i0, hi, hz0, hz1, hz2⟩ := info_parts info30
  obtain ⟨j0, hj, hj0, hj1, hj2⟩ := info_parts info76
  have hll : l.length = n := by have := hrd.1; simpa [lits] using this
  have hok := h.ok.add hl h1 h2 hu
  have hright := fun w (hrd : Reads w B 1 A n (lits l)) => right_ok (w := w) A n c B l hrd (by have := hl.1; omega)
  rw [show decide (ClOk l) = true from decide_eq_true hl] at hright
  have hisk := is_ok h
  have hn4 : n ≤ 4096 := by have := hl.1; omega
  have hP := h.prt
  have hheld := h.ok.held
  have hfew := h.few
  have hus := h.ok.us
  have hcnt : (als es).length ≤ es.length := by unfold als; rw [List.length_map]; exact List.length_filter_le _ _
  obtain ⟨ns, hns⟩ : ∃ ns, ns = (flat es).length := ⟨_, rfl⟩
  obtain ⟨na, hna⟩ : ∃ na, na = es.length := ⟨_, rfl⟩
  obtain ⟨us, hus'⟩ : ∃ us, us = usedL (als es) := ⟨_, rfl⟩
  obtain ⟨ct, hct⟩ : ∃ ct, ct = (als es).length := ⟨_, rfl⟩
  rw [← hns, ← hna, ← hus', ← hct] at hP
  rw [← hns, ← hus'] at hheld
  rw [← hna] at hfew hcnt
  rw [← hct] at hcnt
  rw [← hus'] at hus
  have hun : us + n ≤ 1048576 := by omega
  have t1 : ¬ (id : Int) < 1 := by omega
  have t2 : ¬ 1073741824 < (id : Int) := by omega
  have t3 : ¬ (id : Int) ≤ (last : Int) := by omega
  have t4 : ¬ 1048576 < (us : Int) + (n : Int) := by omega
  obtain ⟨A0, k0, rfl⟩ := own_form hP.hs
  obtain ⟨A1, k1, rfl⟩ := own_form hP.ha
  have hfin := Lib.hid (And.intro hns (And.intro hna (And.intro hus' (And.intro hct (And.intro hll hok)))))
  clear hns hna hus' hct hll hok hl hu h h1
  have hsn := hP.hs
  have hbs : base ≤ w.heap.size := by have := hP.bd; have := hP.hd.lt; omega
  replace hright := Lib.hid hright
  replace hisk := Lib.hid hisk
  have hrd' := Lib.hid hrd
  have hfz := hP.hd.frozen 0
  have q0 := hP.c0
  have q2 := hP.c2
  have q4 := hP.c4
  have hP' := Lib.hid hP
  clear hrd hP
  go_enter Try.func14, Try.ntmps14
  go_upto_region 11 with (first
    | (go_at_call 35; refine hisk.out.mono ?_; rintro e w' ⟨rfl, rfl⟩)
    | (go_at_call 36; refine (hright.out _ hrd'.out).mono ?_; rintro e w' ⟨rfl, rfl⟩)
    | (at_builtin; refine wpList_append_two rfl _ _ 28 29 rfl base 30 i0 _ 1 8 Try.underlying28 Try.underlying29 hi hz0 hz1 hz2 rfl (by omega) (.slice A0 ns k0) ns (lits (flat es)) rfl hsn B A n c (lits l) rfl hrd'.out (by simp [lits, Value.oneCell']) (by simp only [maxLen]; omega) (by omega) hbs ?_; intro v' w1 hown hgrow hat; obtain ⟨A5, k5, rfl⟩ := own_form hown; obtain ⟨hP1, hO1⟩ := hP'.out.app0 hown hgrow; have hfz := (hP'.out.hd.only ((Only.refl _ w).grown hgrow (fun k hk => .inl (by rw [Option.mem_toList]; exact hk))) (notin_own hP'.out.ne0)).frozen 0; have q9 := (hP'.out.hd.only ((Only.refl _ w).grown hgrow (fun k hk => .inl (by rw [Option.mem_toList]; exact hk))) (notin_own hP'.out.ne0)).cell 0; simp only [List.getElem?_toArray, List.getElem?_cons_zero] at q9))
  have hlow := hO1.size
  generalize w1.setCell ⟨d, 0, none⟩ (.slice A5 (ns + n) k5) = W1 at *
  have c0 := hP1.c0
  have c1 := hP1.c1
  have ha1 := hP1.ha
  have hP1' := Lib.hid hP1
  replace hat := Lib.hid hat
  replace hO1 := Lib.hid hO1
  clear hP1 hown hgrow q9 hfz q0 q2 q4 hsn hright hrd'
  have hfar : ∀ (w2 : World), ((W1.alloc (.cells #[.int .i64 ns, .int .i64 ((ns : Int) + n), .int .i64 id, .bool false] 76)).drew).grownBy w2 (Value.slice A1 na k1).ownBlock → w2.heap[d]? = W1.heap[d]? := fun w2 hgrow => (hgrow.block d (by have := hP1'.out.hd.lt; simp; omega) (Ne.symm hP1'.out.ne1)).trans (Below.heap_alloc _ _ _ hP1'.out.hd.lt)
  have hfz1 := hP1'.out.hd.frozen 1
  have hbs1 : base ≤ W1.heap.size := by omega
  have ld := hP1'.out.hd.lt
  replace hfar := Lib.hid hfar
  have hw3 : ∀ (A9 : Option Addr) (k9 : Nat) (w2 : World), w2.ownsRow base 76 4 (.slice A9 (na + 1) k9) (na + 1) (encN 0 es ++ [.int .i64 ns, .int .i64 ((ns : Int) + n), .int .i64 id, .bool false]) →
      ((W1.alloc (.cells #[.int .i64 ns, .int .i64 ((ns : Int) + n), .int .i64 id, .bool false] 76)).drew).grownBy w2 (Value.slice A1 na k1).ownBlock →
      ((Value.slice A9 (na + 1) k9).ownBlock = (Value.slice A1 na k1).ownBlock ∨ (Value.slice A9 (na + 1) k9).ownBlock = some ((W1.alloc (.cells #[.int .i64 ns, .int .i64 ((ns : Int) + n), .int .i64 id, .bool false] 76)).drew).heap.size) →
      AddMid W1 base d (.slice A5 (ns + n) k5) (.slice A1 na k1) us ct last (ns + n) na (lits (flat es) ++ lits l) (encN 0 es ++ [.int .i64 ns, .int .i64 ((ns : Int) + n), .int .i64 id, .bool false]) (w2.setCell ⟨d, 1, none⟩ (.slice A9 (na + 1) k9)) := by
    intro A9 k9 w2 hown hgrow hat2
    obtain ⟨hP2, hO2⟩ := (hP1'.out.alloc (.cells #[.int .i64 ns, .int .i64 ((ns : Int) + n), .int .i64 id, .bool false] 76)).drew.app1 hown hgrow
    refine ⟨A9, k9, hP2, (((Only.refl (fpOf d (.slice A5 (ns + n) k5) (.slice A1 na k1)) W1).alloc (.cells #[.int .i64 ns, .int .i64 ((ns : Int) + n), .int .i64 id, .bool false] 76)).drew).trans hO2, hat2.imp (fun h => h) fun h => ?_⟩
    rw [h]
    exact ⟨_, rfl, by simp⟩
  replace hw3 := Lib.hid hw3
  go_cut [] (fun wx => AddMid W1 base d (.slice A5 (ns + n) k5) (.slice A1 na k1) us ct last (ns + n) na (lits (flat es) ++ lits l) (encN 0 es ++ [.int .i64 ns, .int .i64 ((ns : Int) + n), .int .i64 id, .bool false]) wx)
  case first =>
    go_region_law
      ((refine step_append_any _ (by rfl) _ _ _ (by rfl) base 76 j0 _ 4 32 Try.underlying37 hj hj0 hj1 hj2 rfl (by omega) (.slice A1 na k1) na (encN 0 es) (by rfl) ((hP1'.out.alloc _).drew.ha) (W1.heap.size + 1) (some ⟨W1.heap.size, 0, none⟩) 1 1 [.int .i64 ns, .int .i64 ((ns : Int) + n), .int .i64 id, .bool false] (by rfl) ((lit_readsN W1 76 [.int .i64 ns, .int .i64 ((ns : Int) + n), .int .i64 id, .bool false] 4 rfl).drew) (by simp [Value.oneCell']) (by simp only [maxLen]; omega) (by omega) (by simp; omega) ?_; intro v9 w2 hown hgrow hat2; obtain ⟨A9, k9, rfl⟩ := own_form hown; have hfz2 := (World.frozen?_of_block (a := ⟨d, 1, none⟩) (hfar.out w2 hgrow)).trans hfz1; have hcf2 := (World.cell?_of_block (a := ⟨d, 1, none⟩) (hfar.out w2 hgrow)).trans c1))
    all_goals go_wp2
    all_goals (go_meet; exact hw3.out _ _ _ hown hgrow hat2)
  case rest =>
    clear hw3 hfar hfz1 hbs1 ld ha1 c0 c1
    obtain ⟨A9, k9, hP2, hO2, hat2⟩ := hcut
    have c2 := hP2.c2
    have c3 := hP2.c3
    have c4 := hP2.c4
    have fz2 := hP2.hd.frozen 2
    have fz3 := hP2.hd.frozen 3
    have fz4 := hP2.hd.frozen 4
    have hPe := ((hP2.set2 ((us : Int) + n)).set3 ((ct : Int) + 1)).set4 id
    have hOe := ((hP2.cellOnly 2 (.int .i64 ((us : Int) + n))).trans ((hP2.set2 ((us : Int) + n)).cellOnly 3 (.int .i64 ((ct : Int) + 1)))).trans (((hP2.set2 ((us : Int) + n)).set3 ((ct : Int) + 1)).cellOnly 4 (.int .i64 id))
    have e1 : IntKind.i64.wrap ((us : Int) + n) = (us : Int) + n := by simp [IntKind.wrap, IntKind.bits, IntKind.signed]; omega
    have e2 : IntKind.i64.wrap ((ct : Int) + 1) = (ct : Int) + 1 := by simp [IntKind.wrap, IntKind.bits, IntKind.signed]; omega
    replace hP2 := Lib.hid hP2
    replace hO2 := Lib.hid hO2
    replace hPe := Lib.hid hPe
    replace hOe := Lib.hid hOe
    replace hat2 := Lib.hid hat2
    go_upto_region 12 with (fail)
    have hres : AddEnd wc base d (.slice A5 (ns + n) k5) (.slice A9 (na + 1) k9) ((us : Int) + n) ((ct : Int) + 1) id (ns + n) (na + 1) (lits (flat es) ++ lits l) (encN 0 es ++ [.int .i64 ns, .int .i64 ((ns : Int) + n), .int .i64 id, .bool false]) (((wc.setCell ⟨d, 2, none⟩ (.int .i64 ((us : Int) + n))).setCell ⟨d, 3, none⟩ (.int .i64 ((ct : Int) + 1))).setCell ⟨d, 4, none⟩ (.int .i64 id)).drew := ⟨hPe.out.drew, hOe.out.drew⟩
    replace hres := Lib.hid hres
    go_cut [] (fun wx => AddEnd wc base d (.slice A5 (ns + n) k5) (.slice A9 (na + 1) k9) ((us : Int) + n) ((ct : Int) + 1) id (ns + n) (na + 1) (lits (flat es) ++ lits l) (encN 0 es ++ [.int .i64 ns, .int .i64 ((ns : Int) + n), .int .i64 id, .bool false]) wx)
    case first =>
      go_region_law (fail)
      all_goals go_wp2
      all_goals (go_meet; exact hres.out)
    case rest =>
      clear hres e1 e2 c2 c3 c4 fz2 fz3 fz4
      obtain ⟨hPz, hOz⟩ := hcut
      go_wp2
      go_ret
      exact ⟨rfl, add_fin (last := last) hfin.out hat.out hO1.out hat2.out hO2.out hPz hOz⟩
end
end Go.Proofs.Ytlcfgpkokaiogaa
