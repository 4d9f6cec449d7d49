/- Trails: New, Push. -/
import Derived.Test.YtkedepkhcbhcdaaTrlB
import Derived.Deep.AppendLies
import Derived.Deep.RegionLaw
import Derived.BigRegion
namespace Go.Proofs.Ytkedepkhcbhcdaa
open Go Go.RowKit
set_option linter.unusedVariables false
set_option linter.unusedSimpArgs false
set_option maxHeartbeats 4000000
theorem new_bad (n : Int) (w : World) (h : n < 0 ∨ 1048576 < n) : Calls Try.prog 10 #[.int .i64 n] w fun e w' => e = .returned (.tuple #[.pointer none, .int .i64 2]) ∧ w = w' := by
  rcases h with h | h
  · go_enter Try.func10, Try.ntmps10
    go_wp2
    go_ret2
    exact ⟨rfl, rfl⟩
  · have h2 : ¬ n < 0 := by omega
    go_enter Try.func10, Try.ntmps10
    go_wp2
    go_ret2
    exact ⟨rfl, rfl⟩
def newT (n : Nat) : Trl := { n := n, its := [], st := [0] }
theorem newT_ok (n : Nat) (h : n ≤ 1048576) : (newT n).Ok :=
  { n0 := h, lits := by simp [newT], one := by simp [newT], st0 := rfl, st1 := by simp [newT], sts := by simp [newT], stp := by simp [newT], lvs := by simp [newT] }
theorem made_tab (n : Nat) : (madeCells #[Value.int .i64 0, .int .i64 0, .int .i64 0, .int .i64 0] ((n + 1) * 4)).toList = encSs (tab n []) := by
  apply List.ext_getElem?
  intro i
  by_cases hi : i < (n + 1) * 4
  · have h1 := encSs_at (tab n []) (i / 4) (i % 4) (0, 0, 0, 0) (by rw [tab_at n [] (i / 4) (by omega)]; rfl) (by omega)
    rw [show i / 4 * 4 + i % 4 = i by omega] at h1
    rw [h1]
    have hm : i % 4 = 0 ∨ i % 4 = 1 ∨ i % 4 = 2 ∨ i % 4 = 3 := by omega
    have hs : (madeCells #[Value.int .i64 0, .int .i64 0, .int .i64 0, .int .i64 0] ((n + 1) * 4)).toList[i]? = some (Value.int .i64 0) := by
      rw [List.getElem?_eq_getElem (by simpa [madeCells] using hi)]
      simp [madeCells]
      rcases hm with hm | hm | hm | hm <;> simp [hm]
    rw [hs]
    rcases hm with hm | hm | hm | hm <;> simp [hm, encS]
  · rw [List.getElem?_eq_none (by simp [madeCells]; omega), List.getElem?_eq_none (by rw [encSs_len, tab_len]; omega)]
theorem own_all {W : World} {g e size b base : Nat} {cs : Array Value} {xs : List Value} (h : Blk W g e cs) (hb : base ≤ g) (hx : cs.toList = xs) (hl : xs.length = b * size) (hm : b ≤ 1048577) : W.ownsRow base e size (.slice (some ⟨g, 0, none⟩) b b) b xs := by
  refine ⟨hl, .inr ⟨g, b, cs, rfl, hb, h, Nat.le_refl _, by unfold maxLen; omega, by rw [← hl, ← hx]; simp, ?_⟩⟩
  rw [hx]
  exact List.take_of_length_le (by omega)
def NewPost (n : Nat) (w : World) (e : Ending) (w' : World) : Prop := ∃ d fp, e = .returned (.tuple #[.pointer (some ⟨d, 0, none⟩), .int .i64 0]) ∧ Trail w' w.heap.size d fp (newT n) ∧ Below w.heap.size w w'
set_option maxRecDepth 100000 in
theorem new_ok (n : Nat) (w : World) (h : n ≤ 1048576) : Calls Try.prog 10 #[.int .i64 (n : Int)] w (NewPost n w) := by
  obtain ⟨i0, hi, hz0, hz1, hz2⟩ := info_parts info73
  have hmk : ∀ w, Sem.run Try.prog (Instr.makeSlice 61 (.int .i64 ((n : Int) + 1)) (.int .i64 ((n : Int) + 1))) w = .ok (.slice (some ⟨w.heap.size, 0, none⟩) (n + 1) (n + 1)) (w.alloc (.cells (madeCells #[.int .i64 0, .int .i64 0, .int .i64 0, .int .i64 0] ((n + 1) * 4)) 73)) := by
    intro w
    have := run_make_rowN (P := Try.prog) 61 73 i0 _ Try.underlying61 hi hz0 .i64 .i64 (n + 1) (n + 1) (Nat.le_refl _) (by rw [hz2]; omega) (by omega) w
    rw [hz1, show (Value.agg #[Value.int .i64 0, .int .i64 0, .int .i64 0, .int .i64 0]).cells = #[Value.int .i64 0, .int .i64 0, .int .i64 0, .int .i64 0] from rfl] at this
    simpa using this
  have h1 : ¬ (n : Int) < 0 := by omega
  have h2 : ¬ 1048576 < (n : Int) := by omega
  have h3 : (n : Int) + 1 ≤ 1048577 := by omega
  go_enter Try.func10, Try.ntmps10
  go_wp2_with (refine wpList_build rfl 63 _ rfl #[.slice (some ⟨w.heap.size, 0, none⟩) (n + 1) (n + 1), .slice none 0 0, .slice (some ⟨w.heap.size + 1, 0, none⟩) 1 1, .bool true] rfl ?_)
  go_ret2
  have g0 := ((Blk.new w 73 (madeCells #[Value.int .i64 0, .int .i64 0, .int .i64 0, .int .i64 0] ((n + 1) * 4))).alloc (.cells #[.int .i64 0] 3)).alloc (.cells #[.slice (some ⟨w.heap.size, 0, none⟩) (n + 1) (n + 1), .slice none 0 0, .slice (some ⟨w.heap.size + 1, 0, none⟩) 1 1, .bool true] 63)
  have g1 := (Blk.new (w.alloc (.cells (madeCells #[Value.int .i64 0, .int .i64 0, .int .i64 0, .int .i64 0] ((n + 1) * 4)) 73)) 3 #[.int .i64 0]).alloc (.cells #[.slice (some ⟨w.heap.size, 0, none⟩) (n + 1) (n + 1), .slice none 0 0, .slice (some ⟨w.heap.size + 1, 0, none⟩) 1 1, .bool true] 63)
  rw [World.size_alloc] at g1
  refine ⟨w.heap.size + 2, _, rfl, ⟨_, _, _, ⟨?_, own_all g0 (Nat.le_refl _) (made_tab n) (by rw [encSs_len, tab_len]) (by show n + 1 ≤ 1048577; omega), World.ownsRow_nil _ _ _ _, own_all g1 (by omega) rfl rfl (by simp [newT]), by omega, newT_ok n h⟩, rfl⟩, ?_⟩
  · have := Blk.new ((w.alloc (.cells (madeCells #[Value.int .i64 0, .int .i64 0, .int .i64 0, .int .i64 0] ((n + 1) * 4)) 73)).alloc (.cells #[.int .i64 0] 3)) 63 #[.slice (some ⟨w.heap.size, 0, none⟩) (n + 1) (n + 1), .slice none 0 0, .slice (some ⟨w.heap.size + 1, 0, none⟩) 1 1, .bool true]
    rw [World.size_alloc, World.size_alloc] at this
    exact this
  · exact (((Below.refl _ w).alloc (Nat.le_refl _) _).alloc (by simp) _).alloc (by simp; omega) _
section
variable {w : World} {base d : Nat} {vs vo vt : Value} {D : Trl}
theorem push_full (h : Trm w base d vs vo vt D) (hs : D.st.length = 1048576) : Calls Try.prog 12 #[.pointer (some ⟨d, 0, none⟩)] w fun e w' => e = .returned (.int .i64 5) ∧ w = w' := by
  have c2 := h.c2
  obtain ⟨A, c, rfl⟩ := own_form h.ht
  rw [hs] at c2
  replace h := Lib.hid h
  clear hs
  go_enter Try.func12, Try.ntmps12
  go_wp2_with (go_at_call 34; refine (is_ok h.out).mono ?_; rintro e w' ⟨rfl, rfl⟩)
  go_ret
  exact ⟨rfl, rfl⟩
theorem notin_own {v : Value} {g : Nat} (h : v.ownBlock ≠ some g) : g ∉ v.ownBlock.toList := by
  intro hm
  rw [Option.mem_toList] at hm
  exact h hm
theorem own_kinds {w : World} {base : Nat} {e e' : TypeId} {size size' n n' : Nat} {v v' : Value} {xs xs' : List Value} (h : w.ownsRow base e size v n xs) (h' : w.ownsRow base e' size' v' n' xs') (hne : e ≠ e') : ∀ k, v.ownBlock = some k → v'.ownBlock ≠ some k := by
  intro k hk hk'
  obtain ⟨c1, f1, e1⟩ := Lib.ownsRow_kind h k hk
  obtain ⟨c2, f2, e2⟩ := Lib.ownsRow_kind h' k hk'
  rw [e1] at e2
  cases e2
  exact hne rfl
theorem push_fin {w1 : World} {A2 : Option Addr} {n2 gg cap L : Nat} (hL : L = D.st.length) {o : Obj} (h : Trm w base d vs vo (.slice A2 L n2) D) (hf : D.st.length < 1048576)
    (hown1 : w1.ownsRow base 3 1 (.slice (some ⟨gg, 0, none⟩) (L + 1) cap) (L + 1) (litV (sts D) ++ [.int .i64 D.its.length]))
    (hgrow : (w.alloc o).drew.grownBy w1 (Value.slice A2 L n2).ownBlock) :
    Trm (w1.setCell ⟨d, 2, none⟩ (.slice (some ⟨gg, 0, none⟩) (L + 1) cap)) base d vs vo (.slice (some ⟨gg, 0, none⟩) (L + 1) cap) (psh D) := by
  have hg0 : Only (Value.slice A2 L n2).ownBlock.toList w w1 := (((Only.refl _ w).alloc o).drew).grown hgrow (fun k hk => .inl (by rw [hk]; simp))
  have hd1 := h.hd.only hg0 (notin_own (own_blk_ne h.ht h.hd (by decide)))
  have hv1 := own_only h.hv hg0 (fun k hk => notin_own (own_kinds h.hv h.ht (by decide) k hk))
  have ho1 := own_only h.ho hg0 (fun k hk => notin_own (own_kinds h.ho h.ht (by decide) k hk))
  have hs : w1.grownBy (w1.setCell ⟨d, 2, none⟩ (.slice (some ⟨gg, 0, none⟩) (L + 1) cap)) (some d) := ⟨rfl, rfl, rfl, by simp [World.setCell], fun k _ hk => Below.heap_setCell _ _ _ _ (by rintro rfl; exact hk rfl)⟩
  refine ⟨by have := hd1.set_ 2 (.slice (some ⟨gg, 0, none⟩) (L + 1) cap); simpa using this, hv1.kept hs (.inr (own_blk_ne hv1 hd1 (by decide))), ho1.kept hs (.inr (own_blk_ne ho1 hd1 (by decide))),
    own_cast (hown1.kept hs (.inr (own_blk_ne hown1 hd1 (by decide)))) (by simp [psh, hL]) (by simp [litV, sts, psh]), h.bd, psh_ok h.ok hf⟩
theorem push_only {w1 : World} {A2 : Option Addr} {n2 cap i : Nat} {o : Obj} {u : Value} (hgrow : (w.alloc o).drew.grownBy w1 (Value.slice A2 n2 cap).ownBlock) :
    Only (d :: (Value.slice A2 n2 cap).ownBlock.toList) w (w1.setCell ⟨d, i, none⟩ u) := by
  have hg0 : Only (d :: (Value.slice A2 n2 cap).ownBlock.toList) w w1 := (((Only.refl _ w).alloc o).drew).grown hgrow (fun k hk => .inl (by rw [hk]; simp))
  exact hg0.setCell (p := ⟨d, i, none⟩) (.inl (by simp)) _
/-- What a call that writes leaves. -/
def Wrote (w : World) (base d : Nat) (fp : List Nat) (D : Trl) (r : Value) (e : Ending) (w' : World) : Prop := e = .returned r ∧ ∃ fp', Trail w' base d fp' D ∧ (∀ k, k ∈ fp' → k ∈ fp ∨ w.heap.size ≤ k) ∧ Only fp w w'
set_option maxRecDepth 100000 in
theorem push_ok (h : Trm w base d vs vo vt D) (hs : D.st.length < 1048576) : Calls Try.prog 12 #[.pointer (some ⟨d, 0, none⟩)] w (Wrote w base d (fpOf d vs vo vt) (psh D) (.int .i64 0)) := by
  obtain ⟨i0, hi, hz0, hz1, hz2⟩ := info_parts info3
  have c0 := h.c0
  have c1 := h.c1
  have c2 := h.c2
  have c3 := h.c3
  obtain ⟨A, n, rfl⟩ := own_form h.ho
  obtain ⟨A2, n2, e2⟩ := own_form h.ht
  obtain ⟨L, hL⟩ : ∃ L, L = D.st.length := ⟨_, rfl⟩
  rw [← hL] at e2
  subst e2
  have hn : decide ((1048576 : Int) ≤ (L : Int)) = false := by simp; omega
  have hLs : L < 1048576 := by omega
  have hht := h.ht
  rw [← hL] at hht
  replace hLs := Lib.hid hLs
  replace hht := Lib.hid hht
  replace hL := Lib.hid hL
  have hfz := h.hd.frozen 2
  replace hs := Lib.hid hs
  have H := Lib.hid h
  clear h
  go_enter Try.func12, Try.ntmps12
  go_wp2_with (go_at_call 34; refine (is_ok H.out).mono ?_; rintro e w' ⟨rfl, rfl⟩)
  have hne : (Value.slice A2 L n2).ownBlock ≠ some d := own_blk_ne H.out.ht H.out.hd (by decide)
  have ld := H.out.hd.lt
  have hbase := H.out.bd
  go_region_law
    ((refine step_append_lies _ (by rfl) _ _ _ (by rfl) base 3 i0 _ 1 8 Try.underlying40 hi hz0 hz1 hz2 rfl (by omega) (.slice A2 L n2) L (litV (sts D)) (by rfl) ((hht.out.alloc _).drew) ⟨w.heap.size, 0, none⟩ 1 1 [.int .i64 D.its.length] (by rfl) (by rfl) (World.news_of_block (cs := #[.int .i64 D.its.length]) (t := 3) (fr := (0, 0)) (heap_alloc_new w _)) (by simp [Value.oneCell']) (by omega) (by have := hLs.out; simp only [maxLen]; omega) (by have := hLs.out; omega) (by simp; omega) (w.heap.size + 1) (by simp) ?_; intro gg cap w1 hown1 hgrow hat hlt; have hfar : w1.heap[d]? = w.heap[d]? := (hgrow.block d (by simp; omega) (Ne.symm hne)).trans (Below.heap_alloc _ _ _ ld); have hfz1 := (World.frozen?_of_block (a := ⟨d, 2, none⟩) hfar).trans hfz; have hcf2 := (World.cell?_of_block (a := ⟨d, 2, none⟩) hfar).trans c2; have hcf1 := (World.cell?_of_block (a := ⟨d, 1, none⟩) hfar).trans c1; replace hfar := Lib.hid hfar))
  all_goals
    go_wp2
    go_ret
    refine ⟨rfl, fpOf d vs (.slice A D.its.length n) (.slice (some ⟨gg, 0, none⟩) (L + 1) cap), ⟨_, _, _, push_fin hL.out H.out hs.out hown1 hgrow, rfl⟩, fun k hk => ?_, ?_⟩
    · rcases mem_fp.1 hk with hk | hk | hk | hk
      · exact .inl (mem_fp.2 (.inl hk))
      · exact .inl (mem_fp.2 (.inr (.inl hk)))
      · exact .inl (mem_fp.2 (.inr (.inr (.inl hk))))
      · obtain rfl : gg = k := by simpa [Value.ownBlock] using hk
        rcases hat with e | e
        · exact .inl (mem_fp.2 (.inr (.inr (.inr e))))
        · exact .inr (by omega)
    · refine (push_only hgrow).more (fun k hk _ => ?_)
      rcases List.mem_cons.1 hk with hk | hk
      · exact mem_fp.2 (.inl hk)
      · rw [Option.mem_toList] at hk
        exact mem_fp.2 (.inr (.inr (.inr hk)))
end
end Go.Proofs.Ytkedepkhcbhcdaa
