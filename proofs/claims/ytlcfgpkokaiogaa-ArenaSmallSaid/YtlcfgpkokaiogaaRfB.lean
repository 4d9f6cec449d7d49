/- Arenas: the reference adds and takes away. -/
import Derived.Test.YtlcfgpkokaiogaaRfA
namespace Go.Proofs.Ytlcfgpkokaiogaa
open Go Go.RowKit Go.Shelf
set_option linter.unusedVariables false
set_option linter.unusedSimpArgs false
set_option maxHeartbeats 4000000
theorem info85 : (Try.prog.info? 85).map (fun i => (i.zero, i.size, i.bytes)) = some (some (.agg #[.int .i64 0, .slice none 0 0]), 2, 32) := by kernel_rfl
/-- What the reference answers. -/
def RAns (w : World) (B : Nat) (A : Option Addr) (n c : Nat) (al' : List (Nat × List Int)) (last' : Nat) (err : Int) (e : Ending) (w' : World) : Prop :=
  ∃ A' n' c' es', e = .returned (.tuple #[.agg #[.slice A' n' c', .int .i64 (last' : Int)], .int .i64 err]) ∧ RefR w' B A' n' c' es' ∧ alR es' = al' ∧ Below w.heap.size w w' ∧ ∀ k, (Value.slice A' n' c').ownBlock = some k → (Value.slice A n c).ownBlock = some k ∨ w.heap.size ≤ k
section
variable {w : World} {A Ac : Option Addr} {n c nc cc B : Nat} {es : List REn} {last : Nat} {l : List Int} {id : Int}
set_option maxRecDepth 100000 in
theorem radd_wrong (h : RefR w B A n c es) (hB : B ≤ w.heap.size) (hrd : Reads w B 1 Ac nc (lits l)) (hn : nc ≤ 9223372036854775807) (hc : ¬ ClOk l) :
    Calls Try.prog 30 #[.agg #[.slice A n c, .int .i64 (last : Int)], .int .i64 id, .slice Ac nc cc] w (RAns w B A n c (alR es) last 20) := by
  have hr : ∀ W, Below w.heap.size w W → Calls Try.prog 44 #[.slice Ac nc cc] W fun e w' => e = .returned (.bool false) ∧ W = w' := fun W hW => by
    have := rright_ok (w := W) Ac nc cc B l (hrd.below (hW.mono hB)) hn
    rwa [decide_eq_false hc] at this
  replace hr := Lib.hid hr
  have hh := Lib.hid h
  clear h hrd hc
  go_enter Try.func30, Try.ntmps30
  go_upto_region 1 with (fail)
  have hB1 := ((Below.refl _ w).alloc (Nat.le_refl _) (.cells #[.slice A n c, .int .i64 (last : Int)] 64)).alloc (by simp) (.cells #[.slice none 0 0, .int .i64 0] 64)
  have k3 := (Blk.new w 64 #[.slice A n c, .int .i64 (last : Int)]).alloc (.cells #[.slice none 0 0, .int .i64 0] 64)
  have k6 := Blk.new (w.alloc (.cells #[.slice A n c, .int .i64 (last : Int)] 64)) 64 #[.slice none 0 0, .int .i64 0]
  rw [World.size_alloc] at k6
  generalize (w.alloc (.cells #[.slice A n c, .int .i64 (last : Int)] 64)).alloc (.cells #[.slice none 0 0, .int .i64 0] 64) = W at *
  have c30 := k3.cell 0
  have c31 := k3.cell 1
  have c60 := k6.cell 0
  have c61 := k6.cell 1
  have z60 := k6.frozen 0
  have z61 := k6.frozen 1
  simp only [List.getElem?_toArray, List.getElem?_cons_zero, List.getElem?_cons_succ] at c30 c31 c60 c61
  go_wp2_with (go_at_call 44; refine (hr.out _ hB1).mono ?_; rintro e w' ⟨rfl, rfl⟩)
  have k9 := (k6.set_ 0 (.slice A n c)).set_ 1 (.int .i64 (last : Int))
  simp only [List.setIfInBounds_toArray, List.set_cons_zero, List.set_cons_succ] at k9
  refine bodyPost_ret (results_cell_tmp_row rfl _ _ (w.heap.size + 1) 64 _ (0, 0) _ rfl k9 Try.underlying64 rfl (by kernel_rfl)) rfl ?_
  have hB9 := (hB1.setCell (p := ⟨w.heap.size + 1, 0, none⟩) (Nat.le_succ _) (.slice A n c)).setCell (p := ⟨w.heap.size + 1, 1, none⟩) (Nat.le_succ _) (.int .i64 (last : Int))
  exact ⟨A, n, c, es, rfl, hh.out.below hB hB9, rfl, hB9, fun k hk => .inl hk⟩
set_option maxRecDepth 100000 in
theorem radd_id (h : RefR w B A n c es) (hB : B ≤ w.heap.size) (hrd : Reads w B 1 Ac nc (lits l)) (hn : nc ≤ 9223372036854775807) (hc : ClOk l) (hid : id < 1 ∨ 1073741824 < id ∨ id ≤ (last : Int)) :
    Calls Try.prog 30 #[.agg #[.slice A n c, .int .i64 (last : Int)], .int .i64 id, .slice Ac nc cc] w (RAns w B A n c (alR es) last 30) := by
  have hr : ∀ W, Below w.heap.size w W → Calls Try.prog 44 #[.slice Ac nc cc] W fun e w' => e = .returned (.bool true) ∧ W = w' := fun W hW => by
    have := rright_ok (w := W) Ac nc cc B l (hrd.below (hW.mono hB)) (by omega)
    rwa [decide_eq_true hc] at this
  replace hr := Lib.hid hr
  have hh := Lib.hid h
  clear h hrd hc
  go_enter Try.func30, Try.ntmps30
  go_upto_region 1 with (fail)
  have hB1 := ((Below.refl _ w).alloc (Nat.le_refl _) (.cells #[.slice A n c, .int .i64 (last : Int)] 64)).alloc (by simp) (.cells #[.slice none 0 0, .int .i64 0] 64)
  have k3 := (Blk.new w 64 #[.slice A n c, .int .i64 (last : Int)]).alloc (.cells #[.slice none 0 0, .int .i64 0] 64)
  have k6 := Blk.new (w.alloc (.cells #[.slice A n c, .int .i64 (last : Int)] 64)) 64 #[.slice none 0 0, .int .i64 0]
  rw [World.size_alloc] at k6
  have hW2 : ((w.alloc (.cells #[.slice A n c, .int .i64 (last : Int)] 64)).alloc (.cells #[.slice none 0 0, .int .i64 0] 64)).heap.size = w.heap.size + 2 := by simp
  generalize (w.alloc (.cells #[.slice A n c, .int .i64 (last : Int)] 64)).alloc (.cells #[.slice none 0 0, .int .i64 0] 64) = W at *
  have c30 := k3.cell 0
  have c31 := k3.cell 1
  have c60 := k6.cell 0
  have c61 := k6.cell 1
  have z60 := k6.frozen 0
  have z61 := k6.frozen 1
  simp only [List.getElem?_toArray, List.getElem?_cons_zero, List.getElem?_cons_succ] at c30 c31 c60 c61
  have arms : True := trivial
  by_cases i1 : id < 1
  · clear hid
    go_wp2_with (go_at_call 44; refine (hr.out _ hB1).mono ?_; rintro e w' ⟨rfl, rfl⟩)
    have k9 := (k6.set_ 0 (.slice A n c)).set_ 1 (.int .i64 (last : Int))
    simp only [List.setIfInBounds_toArray, List.set_cons_zero, List.set_cons_succ] at k9
    refine bodyPost_ret (results_cell_tmp_row rfl _ _ (w.heap.size + 1) 64 _ (0, 0) _ rfl k9 Try.underlying64 rfl (by kernel_rfl)) rfl ?_
    have hB9 := (hB1.setCell (p := ⟨w.heap.size + 1, 0, none⟩) (Nat.le_succ _) (.slice A n c)).setCell (p := ⟨w.heap.size + 1, 1, none⟩) (Nat.le_succ _) (.int .i64 (last : Int))
    exact ⟨A, n, c, es, rfl, hh.out.below hB hB9, rfl, hB9, fun k hk => .inl hk⟩
  · by_cases i2 : 1073741824 < id
    · clear hid
      go_wp2_with (go_at_call 44; refine (hr.out _ hB1).mono ?_; rintro e w' ⟨rfl, rfl⟩)
      have k9 := (k6.set_ 0 (.slice A n c)).set_ 1 (.int .i64 (last : Int))
      simp only [List.setIfInBounds_toArray, List.set_cons_zero, List.set_cons_succ] at k9
      refine bodyPost_ret (results_cell_tmp_row rfl _ _ (w.heap.size + 1) 64 _ (0, 0) _ rfl k9 Try.underlying64 rfl (by kernel_rfl)) rfl ?_
      have hB9 := (hB1.setCell (p := ⟨w.heap.size + 1, 0, none⟩) (Nat.le_succ _) (.slice A n c)).setCell (p := ⟨w.heap.size + 1, 1, none⟩) (Nat.le_succ _) (.int .i64 (last : Int))
      exact ⟨A, n, c, es, rfl, hh.out.below hB hB9, rfl, hB9, fun k hk => .inl hk⟩
    · have i3 : id ≤ (last : Int) := by omega
      clear hid
      go_wp2_with (go_at_call 44; refine (hr.out _ hB1).mono ?_; rintro e w' ⟨rfl, rfl⟩)
      have k9 := (k6.set_ 0 (.slice A n c)).set_ 1 (.int .i64 (last : Int))
      simp only [List.setIfInBounds_toArray, List.set_cons_zero, List.set_cons_succ] at k9
      refine bodyPost_ret (results_cell_tmp_row rfl _ _ (w.heap.size + 1) 64 _ (0, 0) _ rfl k9 Try.underlying64 rfl (by kernel_rfl)) rfl ?_
      have hB9 := (hB1.setCell (p := ⟨w.heap.size + 1, 0, none⟩) (Nat.le_succ _) (.slice A n c)).setCell (p := ⟨w.heap.size + 1, 1, none⟩) (Nat.le_succ _) (.int .i64 (last : Int))
      exact ⟨A, n, c, es, rfl, hh.out.below hB hB9, rfl, hB9, fun k hk => .inl hk⟩
set_option maxRecDepth 100000 in
theorem radd_full (h : RefR w B A n c es) (hB : B ≤ w.heap.size) (hrd : Reads w B 1 Ac nc (lits l)) (hn : nc ≤ 140737488355328) (hc : ClOk l) (i1 : ¬ id < 1) (i2 : ¬ 1073741824 < id) (i3 : ¬ id ≤ (last : Int)) (hu : usedL (alR es) ≤ 1048576) (hf : 1048576 < usedL (alR es) + l.length) :
    Calls Try.prog 30 #[.agg #[.slice A n c, .int .i64 (last : Int)], .int .i64 id, .slice Ac nc cc] w (RAns w B A n c (alR es) last 4) := by
  have hr : ∀ W, Below w.heap.size w W → Calls Try.prog 44 #[.slice Ac nc cc] W fun e w' => e = .returned (.bool true) ∧ W = w' := fun W hW => by
    have := rright_ok (w := W) Ac nc cc B l (hrd.below (hW.mono hB)) (by omega)
    rwa [decide_eq_true hc] at this
  replace hr := Lib.hid hr
  have hh := Lib.hid h
  have hll : l.length = nc := by have := hrd.1; simpa [lits] using this
  rw [hll] at hf
  have hus : ∀ W, Below w.heap.size w W → Calls Try.prog 45 #[.agg #[.slice A n c, .int .i64 (last : Int)]] W fun e w' => e = .returned (.int .i64 (usedL (alR es) : Int)) ∧ Below W.heap.size W w' := fun W hW => rused_ok (h.below hB hW) (Nat.le_trans hB hW.size) hu
  obtain ⟨u, hue⟩ : ∃ u, u = usedL (alR es) := ⟨_, rfl⟩
  rw [← hue] at hf hu hus
  replace hus := Lib.hid hus
  clear hll hue
  have hnb : (nc : Int) ≤ 140737488355328 := by omega
  have i4 : (1048576 : Int) < (u : Int) + (nc : Int) := by omega
  clear h hrd hc
  go_enter Try.func30, Try.ntmps30
  go_upto_region 1 with (fail)
  have hB1 := ((Below.refl _ w).alloc (Nat.le_refl _) (.cells #[.slice A n c, .int .i64 (last : Int)] 64)).alloc (by simp) (.cells #[.slice none 0 0, .int .i64 0] 64)
  have k3 := (Blk.new w 64 #[.slice A n c, .int .i64 (last : Int)]).alloc (.cells #[.slice none 0 0, .int .i64 0] 64)
  have k6 := Blk.new (w.alloc (.cells #[.slice A n c, .int .i64 (last : Int)] 64)) 64 #[.slice none 0 0, .int .i64 0]
  rw [World.size_alloc] at k6
  have hW2 : ((w.alloc (.cells #[.slice A n c, .int .i64 (last : Int)] 64)).alloc (.cells #[.slice none 0 0, .int .i64 0] 64)).heap.size = w.heap.size + 2 := by simp
  generalize (w.alloc (.cells #[.slice A n c, .int .i64 (last : Int)] 64)).alloc (.cells #[.slice none 0 0, .int .i64 0] 64) = W at *
  have c30 := k3.cell 0
  have c31 := k3.cell 1
  have c60 := k6.cell 0
  have c61 := k6.cell 1
  have z60 := k6.frozen 0
  have z61 := k6.frozen 1
  simp only [List.getElem?_toArray, List.getElem?_cons_zero, List.getElem?_cons_succ] at c30 c31 c60 c61
  go_wp2_with (first
    | (go_at_call 44; refine (hr.out _ hB1).mono ?_; rintro e w' ⟨rfl, rfl⟩)
    | (go_at_call 45; refine (hus.out _ hB1).mono ?_; rintro e W2 ⟨rfl, hB2⟩; have m3 := k3.below hB2 (by omega); have m6 := k6.below hB2 (by omega); have d30 := m3.cell 0; have d31 := m3.cell 1; have d60 := m6.cell 0; have d61 := m6.cell 1; have y60 := m6.frozen 0; have y61 := m6.frozen 1; simp only [List.getElem?_toArray, List.getElem?_cons_zero, List.getElem?_cons_succ] at d30 d31 d60 d61))
  have k9 := (m6.set_ 0 (.slice A n c)).set_ 1 (.int .i64 (last : Int))
  simp only [List.setIfInBounds_toArray, List.set_cons_zero, List.set_cons_succ] at k9
  refine bodyPost_ret (results_cell_tmp_row rfl _ _ (w.heap.size + 1) 64 _ (0, 0) _ rfl k9 Try.underlying64 rfl (by kernel_rfl)) rfl ?_
  have hB9 := ((hB1.trans (hB2.mono hB1.size)).setCell (p := ⟨w.heap.size + 1, 0, none⟩) (Nat.le_succ _) (.slice A n c)).setCell (p := ⟨w.heap.size + 1, 1, none⟩) (Nat.le_succ _) (.int .i64 (last : Int))
  exact ⟨A, n, c, es, rfl, hh.out.below hB hB9, rfl, hB9, fun k hk => .inl hk⟩
set_option maxRecDepth 100000 in
theorem radd_yes (h : RefR w B A n c es) (hB : B ≤ w.heap.size) (hrd : Reads w B 1 Ac nc (lits l)) (hn : nc ≤ 140737488355328) (hc : ClOk l) (i1 : ¬ id < 1) (i2 : ¬ 1073741824 < id) (i3 : ¬ id ≤ (last : Int)) (hu : usedL (alR es) ≤ 1048576) (hf : usedL (alR es) + l.length ≤ 1048576) (hbd : n + 1 ≤ 1048576) (hlc : l.length ≤ cc ∧ cc ≤ 9223372036854775807) :
    Calls Try.prog 30 #[.agg #[.slice A n c, .int .i64 (last : Int)], .int .i64 id, .slice Ac nc cc] w (RAns w B A n c (alR es ++ [(id.toNat, l)]) id.toNat 0) := by
  have hr : ∀ W, Below w.heap.size w W → Calls Try.prog 44 #[.slice Ac nc cc] W fun e w' => e = .returned (.bool true) ∧ W = w' := fun W hW => by
    have := rright_ok (w := W) Ac nc cc B l (hrd.below (hW.mono hB)) (by omega)
    rwa [decide_eq_true hc] at this
  replace hr := Lib.hid hr
  have hh := Lib.hid h
  have hll : l.length = nc := by have := hrd.1; simpa [lits] using this
  rw [hll] at hf
  have hus : ∀ W, Below w.heap.size w W → Calls Try.prog 45 #[.agg #[.slice A n c, .int .i64 (last : Int)]] W fun e w' => e = .returned (.int .i64 (usedL (alR es) : Int)) ∧ Below W.heap.size W w' := fun W hW => rused_ok (h.below hB hW) (Nat.le_trans hB hW.size) hu
  obtain ⟨u, hue⟩ : ∃ u, u = usedL (alR es) := ⟨_, rfl⟩
  rw [← hue] at hf hu hus
  replace hus := Lib.hid hus
  clear hll hue
  have hnb : (nc : Int) ≤ 140737488355328 := by omega
  have i4 : ¬ (1048576 : Int) < (u : Int) + (nc : Int) := by omega
  have hll := Lib.hid (show l.length = nc by have := hrd.1; simpa [lits] using this)
  have hrd' := Lib.hid hrd
  obtain ⟨i0, hi, hz0, hz1, hz2⟩ := info_parts info85
  clear h hrd hc
  go_enter Try.func30, Try.ntmps30
  go_upto_region 1 with (fail)
  have hB1 := ((Below.refl _ w).alloc (Nat.le_refl _) (.cells #[.slice A n c, .int .i64 (last : Int)] 64)).alloc (by simp) (.cells #[.slice none 0 0, .int .i64 0] 64)
  have k3 := (Blk.new w 64 #[.slice A n c, .int .i64 (last : Int)]).alloc (.cells #[.slice none 0 0, .int .i64 0] 64)
  have k6 := Blk.new (w.alloc (.cells #[.slice A n c, .int .i64 (last : Int)] 64)) 64 #[.slice none 0 0, .int .i64 0]
  rw [World.size_alloc] at k6
  have hW2 : ((w.alloc (.cells #[.slice A n c, .int .i64 (last : Int)] 64)).alloc (.cells #[.slice none 0 0, .int .i64 0] 64)).heap.size = w.heap.size + 2 := by simp
  generalize (w.alloc (.cells #[.slice A n c, .int .i64 (last : Int)] 64)).alloc (.cells #[.slice none 0 0, .int .i64 0] 64) = W at *
  have c30 := k3.cell 0
  have c31 := k3.cell 1
  have c60 := k6.cell 0
  have c61 := k6.cell 1
  have z60 := k6.frozen 0
  have z61 := k6.frozen 1
  simp only [List.getElem?_toArray, List.getElem?_cons_zero, List.getElem?_cons_succ] at c30 c31 c60 c61
  go_upto_region 7 with (first
    | (go_at_call 44; refine (hr.out _ hB1).mono ?_; rintro e w' ⟨rfl, rfl⟩)
    | (go_at_call 45; refine (hus.out _ hB1).mono ?_; rintro e W2 ⟨rfl, hB2⟩; have m3 := k3.below hB2 (by omega); have m6 := k6.below hB2 (by omega)))
  have hR2 := hh.out.below hB (hB1.trans (hB2.mono hB1.size))
  have hb2 := hB1.trans (hB2.mono hB1.size)
  have hs2 : w.heap.size + 2 ≤ W2.heap.size := by have := hB2.size; omega
  have hrw := Reads.of_own hR2.row
  have hbd1 : n ≤ 1048575 := by omega
  have d30 := m3.cell 0
  simp only [List.getElem?_toArray, List.getElem?_cons_zero] at d30
  have hl3 := m3.lt
  clear hus hr c30 c31 c60 c61 z60 z61
  have t0 := Lib.hid trivial
  have hn0 : w.heap.size + 2 ≤ W2.heap.size := hs2
  go_wp2_with (first
    | (at_builtin; clear t0; refine wpList_append_any _ rfl _ _ 62 rfl (w.heap.size + 2) 85 i0 _ 2 32 Try.underlying62 hi hz0 hz1 hz2 rfl (by omega) (.slice (some ⟨W2.heap.size, 0, none⟩) 0 0) 0 [] rfl (World.ownsRow_lit W2 #[] 0 (by omega) (by simp only [maxLen]; omega) rfl) W2.heap.size A n c (encR es) rfl (hrw.alloc (Nat.le_refl _) _) (encR_one es) (by simp only [maxLen]; omega) (by omega) (by simp; omega) ?_; intro v' w3 hown hgrow hat; have hB3 := own_below (B := w.heap.size) (hb2.alloc hb2.size (.cells #[] 85)) (by simp; omega) (World.ownsRow_lit (base := w.heap.size) (e := 85) (size := 2) W2 #[] 0 (by omega) (by simp only [maxLen]; omega) rfl) hgrow; have n3 := (m3.alloc (.cells #[] 85)).grown hgrow (by simp [Value.ownBlock]; omega); have n6 := (m6.alloc (.cells #[] 85)).grown hgrow (by simp [Value.ownBlock]; omega); rw [Nat.zero_add, List.nil_append] at hown; obtain ⟨A3, c3, rfl⟩ := own_form hown)
    | (refine wpList_build rfl 85 _ rfl #[.int .i64 id, .slice Ac nc cc] rfl ?_)
    | (at_builtin; refine wpList_append_any _ rfl _ _ 62 rfl (w.heap.size + 2) 85 i0 _ 2 32 Try.underlying62 hi hz0 hz1 hz2 rfl (by omega) (.slice A3 n c3) n (encR es) rfl (row_new hown ((Below.refl _ _).alloc (Nat.le_refl _) _)) (w3.heap.size + 1) (some ⟨w3.heap.size, 0, none⟩) 1 1 [.int .i64 id, .slice Ac nc cc] rfl (lit_readsN w3 85 _ 2 rfl) (by simp [Value.oneCell']) (by simp only [maxLen]; omega) (by omega) (by have := n6.lt; have := hgrow.size; simp at *; omega) ?_; intro v5 w5 hown5 hgrow5 hat5; obtain ⟨A5, c5, rfl⟩ := own_form hown5; have hB5 := own_below (B := w.heap.size) (hB3.alloc hB3.size (.cells #[.int .i64 id, .slice Ac nc cc] 85)) (by have := hB3.size; simp; omega) (own_base (row_new hown ((Below.refl _ _).alloc (Nat.le_refl _) _)) (by omega)) hgrow5; have p3 := (n3.alloc (.cells #[.int .i64 id, .slice Ac nc cc] 85)).grown hgrow5 (fun e => by have := (hown.lt _ e.symm).1; omega); have p6 := (n6.alloc (.cells #[.int .i64 id, .slice Ac nc cc] 85)).grown hgrow5 (fun e => by have := (hown.lt _ e.symm).1; omega); have e30 := p3.cell 0; have e31 := p3.cell 1; have e60 := p6.cell 0; have e61 := p6.cell 1; have x30 := p3.frozen 0; have x31 := p3.frozen 1; have x60 := p6.frozen 0; have x61 := p6.frozen 1; simp only [List.getElem?_toArray, List.getElem?_cons_zero, List.getElem?_cons_succ] at e30 e31 e60 e61))
  have ne1 : w.heap.size + 1 ≠ w.heap.size := by omega
  have k9 := (((p6.far (p := ⟨w.heap.size, 0, none⟩) ne1 (.slice A5 (n + 1) c5)).far (p := ⟨w.heap.size, 1, none⟩) ne1 (.int .i64 id)).set_ 0 (.slice A5 (n + 1) c5)).set_ 1 (.int .i64 id)
  simp only [List.setIfInBounds_toArray, List.set_cons_zero, List.set_cons_succ] at k9
  have hO9 : Only [w.heap.size, w.heap.size + 1] w5 ((((w5.setCell ⟨w.heap.size, 0, none⟩ (.slice A5 (n + 1) c5)).setCell ⟨w.heap.size, 1, none⟩ (.int .i64 id)).setCell ⟨w.heap.size + 1, 0, none⟩ (.slice A5 (n + 1) c5)).setCell ⟨w.heap.size + 1, 1, none⟩ (.int .i64 id)) :=
    ((((Only.refl _ w5).setCell (.inl (by simp)) _).setCell (.inl (by simp)) _).setCell (.inl (by simp)) _).setCell (.inl (by simp)) _
  have hB9 := hB5.trans (hO9.below hB5.size (by simp))
  refine bodyPost_ret (results_cell_tmp_row rfl _ _ (w.heap.size + 1) 64 _ (0, 0) _ rfl k9 Try.underlying64 rfl (by kernel_rfl)) rfl ?_
  have hidn : ((id.toNat : Nat) : Int) = id := by omega
  refine ⟨A5, n + 1, c5, es ++ [⟨id.toNat, Ac, cc, l⟩], by rw [hidn]; rfl, ⟨?_, by simp [hh.out.len], ?_, hbd⟩, by simp [alR], hB9, fun k hk => .inr (by have := (hown5.lt k hk).1; omega)⟩
  · have h9 := own_only hown5 hO9 (fun k hk hm => by have := (hown5.lt k hk).1; simp at hm; omega)
    rw [encR_snoc, encX, hidn, hll.out]
    exact own_base h9 (Nat.zero_le _)
  · intro e he
    rcases List.mem_append.1 he with he | he
    · exact (hh.out.ls.below (hB9.mono hB)) e he
    · rw [List.mem_singleton] at he
      subst he
      exact ⟨by rw [hll.out]; exact hrd'.out.below (hB9.mono hB), hlc⟩
/-- The reference's Add. -/
theorem radd_ok (h : RefR w B A n c es) (hB : B ≤ w.heap.size) (hrd : Reads w B 1 Ac nc (lits l)) (hn : nc ≤ 140737488355328) (hlc : l.length ≤ cc ∧ cc ≤ 9223372036854775807) (hu : usedL (alR es) ≤ 1048576) (hbd : n + 1 ≤ 1048576) :
    Calls Try.prog 30 #[.agg #[.slice A n c, .int .i64 (last : Int)], .int .i64 id, .slice Ac nc cc] w (RAns w B A n c (addAl (alR es) last id l) (addLast (alR es) last id l) (addErr (alR es) last id l)) := by
  by_cases hc : ClOk l
  · by_cases hid : id < 1 ∨ 1073741824 < id ∨ id ≤ (last : Int)
    · have he : addErr (alR es) last id l = 30 := by unfold addErr; rw [if_neg (by simpa using hc), if_pos hid]
      rw [he, show addAl (alR es) last id l = alR es from if_neg (by rw [he]; decide), show addLast (alR es) last id l = last from if_neg (by rw [he]; decide)]
      exact radd_id h hB hrd (by omega) hc hid
    · by_cases hf : 1048576 < usedL (alR es) + l.length
      · have he : addErr (alR es) last id l = 4 := by unfold addErr; rw [if_neg (by simpa using hc), if_neg hid, if_pos hf]
        rw [he, show addAl (alR es) last id l = alR es from if_neg (by rw [he]; decide), show addLast (alR es) last id l = last from if_neg (by rw [he]; decide)]
        exact radd_full h hB hrd hn hc (by omega) (by omega) (by omega) hu hf
      · have he : addErr (alR es) last id l = 0 := by unfold addErr; rw [if_neg (by simpa using hc), if_neg hid, if_neg hf]
        rw [he, show addAl (alR es) last id l = alR es ++ [(id.toNat, l)] from if_pos he, show addLast (alR es) last id l = id.toNat from if_pos he]
        exact radd_yes h hB hrd hn hc (by omega) (by omega) (by omega) hu (by omega) hbd hlc
  · have he : addErr (alR es) last id l = 20 := if_pos hc
    rw [he, show addAl (alR es) last id l = alR es from if_neg (by rw [he]; decide), show addLast (alR es) last id l = last from if_neg (by rw [he]; decide)]
    exact radd_wrong h hB hrd (by omega) hc
end
end Go.Proofs.Ytlcfgpkokaiogaa
