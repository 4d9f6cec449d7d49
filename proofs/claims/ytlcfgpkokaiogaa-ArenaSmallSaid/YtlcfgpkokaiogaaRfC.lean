/- Arenas: the reference takes away. -/
import Derived.Test.YtlcfgpkokaiogaaRfB
namespace Go.Proofs.Ytlcfgpkokaiogaa
open Go Go.RowKit Go.Shelf
set_option linter.unusedVariables false
set_option linter.unusedSimpArgs false
set_option maxHeartbeats 4000000
def SortedA (al : List (Nat × List Int)) : Prop := al.Pairwise (fun a b => a.1 < b.1)
theorem cut_atR {es : List REn} {k : Nat} {e : REn} (h : es[k]? = some e) : es = es.take k ++ (e :: es.drop (k + 1)) := by
  have h1 := List.getElem?_eq_some_iff.1 h
  rw [← h1.2, List.getElem_cons_drop, List.take_append_drop]
theorem erase_without {es : List REn} {k : Nat} {x : REn} {id : Int} (hs : SortedA (alR es)) (hx : es[k]? = some x) (he : (x.id : Int) = id) : alR (es.eraseIdx k) = without (alR es) id := by
  have h1 : alR es = alR (es.take k) ++ ((x.id, x.ls) :: alR (es.drop (k + 1))) := by
    conv => lhs; rw [cut_atR hx]
    simp [alR]
  have h2 : alR (es.eraseIdx k) = alR (es.take k) ++ alR (es.drop (k + 1)) := by
    rw [List.eraseIdx_eq_take_drop_succ]
    simp [alR]
  unfold SortedA at hs
  rw [h1, List.pairwise_append] at hs
  obtain ⟨_, s2, s3⟩ := hs
  obtain ⟨s4, _⟩ := List.pairwise_cons.1 s2
  rw [h2, h1, without, List.filter_append, List.filter_cons, if_neg (by simpa using he)]
  congr 1
  · symm
    rw [List.filter_eq_self]
    intro c hc
    have := s3 c hc (x.id, x.ls) (by simp)
    dsimp only at this
    simp
    omega
  · symm
    rw [List.filter_eq_self]
    intro c hc
    have := s4 c hc
    dsimp only at this
    simp
    omega
theorem fndI_cases {es : List REn} (hs : SortedA (alR es)) (id : Int) : (fndI es id = -1 ∧ look (alR es) id = none) ∨ ∃ (k : Nat) (x : REn), fndI es id = (k : Int) ∧ es[k]? = some x ∧ (x.id : Int) = id ∧ look (alR es) id = some x.ls := by
  cases h : es.findIdx? (fun e => (e.id : Int) == id) with
  | none =>
    refine .inl ⟨by unfold fndI; rw [h], ?_⟩
    rw [List.findIdx?_eq_none_iff] at h
    rw [look_none]
    intro c hc
    obtain ⟨e, he, rfl⟩ := List.mem_map.1 hc
    simpa using h e he
  | some k =>
    rw [List.findIdx?_eq_some_iff_getElem] at h
    obtain ⟨h1, h2, h3⟩ := h
    have hid : (es[k].id : Int) = id := by simpa using h2
    refine .inr ⟨k, es[k], ?_, List.getElem?_eq_getElem h1, hid, (look_some hs).2 ⟨es[k].id, hid, List.mem_map.2 ⟨es[k], List.getElem_mem h1, rfl⟩⟩⟩
    exact fndI_at (List.getElem?_eq_getElem h1) hid (fun j y hj hl => by
      have := h3 j hl
      rw [(List.getElem?_eq_some_iff.1 hj).2] at this
      simpa using this)
theorem erase_snoc {es : List REn} {k j : Nat} {x : REn} (hx : es[j]? = some x) : (es.take (j + 1)).eraseIdx k = if j = k then (es.take j).eraseIdx k else (es.take j).eraseIdx k ++ [x] := by
  rw [take_snoc hx]
  have hj := (List.getElem?_eq_some_iff.1 hx).1
  have hl : (es.take j).length = j := by rw [List.length_take]; omega
  by_cases h : j = k
  · subst h
    rw [if_pos rfl, List.eraseIdx_append_of_length_le (by omega), hl, Nat.sub_self, List.eraseIdx_of_length_le (l := es.take j) (by omega)]
    simp
  · rw [if_neg h]
    rcases Nat.lt_or_gt_of_ne h with h1 | h1
    · rw [List.eraseIdx_of_length_le (by simp; omega), List.eraseIdx_of_length_le (by omega)]
    · rw [List.eraseIdx_append_of_lt_length (by omega)]
section
variable {w : World} {A : Option Addr} {n c B : Nat} {es : List REn} {last : Nat} {id : Int}
set_option maxRecDepth 100000 in
theorem rdel_no (h : RefR w B A n c es) (hB : B ≤ w.heap.size) (hf : fndI es id = -1) :
    Calls Try.prog 31 #[.agg #[.slice A n c, .int .i64 (last : Int)], .int .i64 id] w (RAns w B A n c (alR es) last 30) := by
  have hr : ∀ W, Below w.heap.size w W → Calls Try.prog 46 #[.agg #[.slice A n c, .int .i64 (last : Int)], .int .i64 id] W fun e w' => e = .returned (.int .i64 (-1)) ∧ Below W.heap.size W w' := fun W hW => by
    have := rfind_ok (last := (last : Int)) (h.below hB hW) (Nat.le_trans hB hW.size) id
    rwa [hf] at this
  replace hr := Lib.hid hr
  have hh := Lib.hid h
  clear h hf
  go_enter Try.func31, Try.ntmps31
  go_upto_region 1 with (fail)
  have hB1 := ((Below.refl _ w).alloc (Nat.le_refl _) (.cells #[.slice A n c, .int .i64 (last : Int)] 64)).alloc (by simp) (.cells #[.slice none 0 0, .int .i64 0] 64)
  have k3 := (Blk.new w 64 #[.slice A n c, .int .i64 (last : Int)]).alloc (.cells #[.slice none 0 0, .int .i64 0] 64)
  have k6 := Blk.new (w.alloc (.cells #[.slice A n c, .int .i64 (last : Int)] 64)) 64 #[.slice none 0 0, .int .i64 0]
  rw [World.size_alloc] at k6
  have hW2 : ((w.alloc (.cells #[.slice A n c, .int .i64 (last : Int)] 64)).alloc (.cells #[.slice none 0 0, .int .i64 0] 64)).heap.size = w.heap.size + 2 := by simp
  generalize (w.alloc (.cells #[.slice A n c, .int .i64 (last : Int)] 64)).alloc (.cells #[.slice none 0 0, .int .i64 0] 64) = W at *
  have c30 := k3.cell 0
  have c31 := k3.cell 1
  simp only [List.getElem?_toArray, List.getElem?_cons_zero, List.getElem?_cons_succ] at c30 c31
  go_wp2_with (go_at_call 46; refine (hr.out _ hB1).mono ?_; rintro e W2 ⟨rfl, hB2⟩; have m3 := k3.below hB2 (by omega); have m6 := k6.below hB2 (by omega); have d30 := m3.cell 0; have d31 := m3.cell 1; have d60 := m6.cell 0; have d61 := m6.cell 1; have y60 := m6.frozen 0; have y61 := m6.frozen 1; simp only [List.getElem?_toArray, List.getElem?_cons_zero, List.getElem?_cons_succ] at d30 d31 d60 d61)
  have k9 := (m6.set_ 0 (.slice A n c)).set_ 1 (.int .i64 (last : Int))
  simp only [List.setIfInBounds_toArray, List.set_cons_zero, List.set_cons_succ] at k9
  refine bodyPost_ret (results_cell_tmp_row rfl _ _ (w.heap.size + 1) 64 _ (0, 0) _ rfl k9 Try.underlying64 rfl (by kernel_rfl)) rfl ?_
  have hB9 := ((hB1.trans (hB2.mono hB1.size)).setCell (p := ⟨w.heap.size + 1, 0, none⟩) (Nat.le_succ _) (.slice A n c)).setCell (p := ⟨w.heap.size + 1, 1, none⟩) (Nat.le_succ _) (.int .i64 (last : Int))
  exact ⟨A, n, c, es, rfl, hh.out.below hB hB9, rfl, hB9, fun k hk => .inl hk⟩
set_option maxRecDepth 100000 in
theorem rdel_yes (h : RefR w B A n c es) (hB : B ≤ w.heap.size) (hs : SortedA (alR es)) {k : Nat} {x : REn} (hf : fndI es id = (k : Int)) (hx : es[k]? = some x) (he : (x.id : Int) = id) :
    Calls Try.prog 31 #[.agg #[.slice A n c, .int .i64 (last : Int)], .int .i64 id] w (RAns w B A n c (without (alR es) id) last 0) := by
  have hr : ∀ W, Below w.heap.size w W → Calls Try.prog 46 #[.agg #[.slice A n c, .int .i64 (last : Int)], .int .i64 id] W fun e w' => e = .returned (.int .i64 (k : Int)) ∧ Below W.heap.size W w' := fun W hW => by
    have := rfind_ok (last := (last : Int)) (h.below hB hW) (Nat.le_trans hB hW.size) id
    rwa [hf] at this
  have hew := erase_without hs hx he
  have hkn : k < n := by have := (List.getElem?_eq_some_iff.1 hx).1; have := h.len; omega
  have hbd := h.bd
  have hk0 : ¬ (k : Int) < 0 := by omega
  replace hr := Lib.hid hr
  replace hew := Lib.hid hew
  have hh := Lib.hid h
  obtain ⟨i0, hi, hz0, hz1, hz2⟩ := info_parts info85
  clear h hf hs he hx
  go_enter Try.func31, Try.ntmps31
  go_upto_region 1 with (fail)
  have hB1 := ((Below.refl _ w).alloc (Nat.le_refl _) (.cells #[.slice A n c, .int .i64 (last : Int)] 64)).alloc (by simp) (.cells #[.slice none 0 0, .int .i64 0] 64)
  have k3 := (Blk.new w 64 #[.slice A n c, .int .i64 (last : Int)]).alloc (.cells #[.slice none 0 0, .int .i64 0] 64)
  have k6 := Blk.new (w.alloc (.cells #[.slice A n c, .int .i64 (last : Int)] 64)) 64 #[.slice none 0 0, .int .i64 0]
  rw [World.size_alloc] at k6
  have hW2 : ((w.alloc (.cells #[.slice A n c, .int .i64 (last : Int)] 64)).alloc (.cells #[.slice none 0 0, .int .i64 0] 64)).heap.size = w.heap.size + 2 := by simp
  generalize (w.alloc (.cells #[.slice A n c, .int .i64 (last : Int)] 64)).alloc (.cells #[.slice none 0 0, .int .i64 0] 64) = W at *
  have c30 := k3.cell 0
  have c31 := k3.cell 1
  simp only [List.getElem?_toArray, List.getElem?_cons_zero, List.getElem?_cons_succ] at c30 c31
  go_wp2_with (go_at_call 46; refine (hr.out _ hB1).mono ?_; rintro e W2 ⟨rfl, hB2⟩; have m3 := k3.below hB2 (by omega); have m6 := k6.below hB2 (by omega))
  have hb2 := hB1.trans (hB2.mono hB1.size)
  have hs2 : w.heap.size + 2 ≤ W2.heap.size := by have := hB2.size; omega
  have hR2 := Lib.hid (hh.out.below hB hb2)
  have hl3 := m3.lt
  have hl6 := m6.lt
  clear hr c30 c31 k3 k6 hB2
  go_loopw [7, 8] (fun v i wr => ∃ j : Nat, j ≤ n ∧ i = .int .i64 j ∧ wr.ownsRow W2.heap.size 85 2 v ((es.take j).eraseIdx k).length (encR ((es.take j).eraseIdx k)) ∧ Below W2.heap.size W2 wr) (fun _ i _ => n - (intOf i).toNat)
  case atStart => exact ⟨0, by omega, rfl, World.ownsRow_nil _ _ _ _, Below.refl _ _⟩
  case round =>
    obtain ⟨j, hj, rfl, hv, hBr⟩ := hrel
    obtain ⟨A3, c3, rfl⟩ := own_form hv
    have p3 := m3.below hBr hl3
    have d30 := p3.cell 0
    simp only [List.getElem?_toArray, List.getElem?_cons_zero] at d30
    by_cases hlt : j < n
    · obtain ⟨ad, x, rfl, hab, hx, q0, q1⟩ := (hR2.out.below (Nat.le_trans hB hb2.size) hBr).at_ hlt
      have hsn := erase_snoc (k := k) hx
      have t1 : (j : Int) < (n : Int) := by omega
      have t2 : 0 ≤ (j : Int) := by omega
      have hlen : ((es.take j).eraseIdx k).length ≤ j := by have := List.length_eraseIdx_le (es.take j) k; rw [List.length_take] at this; omega
      have h0 := hBr.size
      clear hx
      by_cases hjk : j = k
      · rw [if_pos hjk] at hsn
        have hjb : ((j : Int) != (k : Int)) = false := by simp; omega
        replace hsn := Lib.hid hsn
        clear hjk hlen q0 q1
        go_wp2_with fail
        go_roundw
        case rel => exact ⟨j + 1, by omega, by go_num, by rw [hsn.out]; exact hv, hBr⟩
        case measure => simp [intOf]; omega
      · rw [if_neg hjk] at hsn
        have hjb : ((j : Int) != (k : Int)) = true := by simp; omega
        replace hsn := Lib.hid hsn
        clear hjk
        generalize (es.take j).eraseIdx k = fs at *
        go_wp2_with (at_builtin; refine wpList_append_any _ rfl _ _ 62 rfl W2.heap.size 85 i0 _ 2 32 Try.underlying62 hi hz0 hz1 hz2 rfl (by omega) (.slice A3 fs.length c3) fs.length (encR fs) rfl (row_new hv ((Below.refl _ _).alloc (Nat.le_refl _) _)) (wr.heap.size + 1) (some ⟨wr.heap.size, 0, none⟩) 1 1 [.int .i64 (x.id : Int), .slice x.A x.ls.length x.c] rfl (lit_readsN wr 85 _ 2 rfl) (by simp [Value.oneCell']) (by simp only [maxLen]; omega) (by omega) (by simp; omega) ?_; intro v' w3 hown hgrow hat; have hB3 := own_below (hBr.alloc hBr.size _) (by simp; omega) (row_new hv ((Below.refl _ _).alloc (Nat.le_refl _) _)) hgrow)
        go_roundw
        case rel => exact ⟨j + 1, by omega, by go_num, own_cast hown (by rw [hsn.out]; simp) (by rw [hsn.out, encR_snoc]; rfl), hB3⟩
        case measure => simp [intOf]; omega
    · obtain rfl : j = n := by omega
      rw [List.take_of_length_le (by rw [hR2.out.len]; exact Nat.le_refl _)] at hv ⊢
      have hln : (es.eraseIdx k).length ≤ j := by have := List.length_eraseIdx_le es k; have := hR2.out.len; omega
      generalize hfs : es.eraseIdx k = fs at *
      have p6 := m6.below hBr hl6
      have d31 := p3.cell 1
      have d60 := p6.cell 0
      have d61 := p6.cell 1
      have z30 := p3.frozen 0
      have z60 := p6.frozen 0
      have z61 := p6.frozen 1
      simp only [List.getElem?_toArray, List.getElem?_cons_zero, List.getElem?_cons_succ] at d31 d60 d61
      have hfs' := Lib.hid hfs
      clear hfs
      go_wp2_with fail
      have ne1 : w.heap.size + 1 ≠ w.heap.size := by omega
      have k9 := ((p6.far (p := ⟨w.heap.size, 0, none⟩) ne1 (.slice A3 fs.length c3)).set_ 0 (.slice A3 fs.length c3)).set_ 1 (.int .i64 (last : Int))
      simp only [List.setIfInBounds_toArray, List.set_cons_zero, List.set_cons_succ] at k9
      have hO9 : Only [w.heap.size, w.heap.size + 1] wr (((wr.setCell ⟨w.heap.size, 0, none⟩ (.slice A3 fs.length c3)).setCell ⟨w.heap.size + 1, 0, none⟩ (.slice A3 fs.length c3)).setCell ⟨w.heap.size + 1, 1, none⟩ (.int .i64 (last : Int))) :=
        (((Only.refl _ wr).setCell (.inl (by simp)) _).setCell (.inl (by simp)) _).setCell (.inl (by simp)) _
      have hb3 := hb2.trans (hBr.mono hb2.size)
      have hB9 := hb3.trans (hO9.below hb3.size (by simp))
      refine bodyPost_ret (results_cell_tmp_row rfl _ _ (w.heap.size + 1) 64 _ (0, 0) _ rfl k9 Try.underlying64 rfl (by kernel_rfl)) rfl ?_
      refine ⟨A3, fs.length, c3, fs, rfl, ⟨?_, rfl, ?_, by omega⟩, hew.out, hB9, fun i hi => .inr (by have := (hv.lt i hi).1; omega)⟩
      · exact own_base (own_only hv hO9 (fun i hi hm => by have := (hv.lt i hi).1; simp at hm; omega)) (Nat.zero_le _)
      · intro e he
        rw [← hfs'.out] at he
        exact (hh.out.ls.below (hB9.mono hB)) e (List.mem_of_mem_eraseIdx he)
/-- The reference's Delete. -/
theorem rdel_ok (h : RefR w B A n c es) (hB : B ≤ w.heap.size) (hs : SortedA (alR es)) :
    Calls Try.prog 31 #[.agg #[.slice A n c, .int .i64 (last : Int)], .int .i64 id] w (RAns w B A n c (without (alR es) id) last (delErr (alR es) id)) := by
  rcases fndI_cases hs id with ⟨h1, h2⟩ | ⟨k, x, h1, h2, h3, h4⟩
  · rw [without_none h2, show delErr (alR es) id = 30 from if_pos h2]
    exact rdel_no h hB h1
  · rw [show delErr (alR es) id = 0 from if_neg (by rw [h4]; simp)]
    exact rdel_yes h hB hs h1 h2 h3
end
end Go.Proofs.Ytlcfgpkokaiogaa
