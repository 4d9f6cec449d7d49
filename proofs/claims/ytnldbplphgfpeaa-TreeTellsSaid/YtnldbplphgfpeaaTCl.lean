/- Trees: lists cloned. -/
import Derived.Test.YtnldbplphgfpeaaTOw
namespace Go.Proofs.Ytnldbplphgfpeaa
open Go Go.RowKit Go.Shelf
set_option linter.unusedVariables false
set_option linter.unusedSimpArgs false
set_option maxHeartbeats 4000000
theorem infoExpr : (Try.prog.info? 30).map (fun i => (i.zero, i.size, i.bytes)) = some (some (.agg #[.int .u8 0, .int .u8 0, .int .u32 0, .int .i64 0, .string ⟨#[]⟩, .slice none 0 0]), 6, 56) := by kernel_rfl
set_option maxRecDepth 100000 in
theorem cloneExpr (l : Loc) (n : Nat) (xs : List Value) (w : World) (h0 : RowIn w 6 l n xs) (h1 : ∀ u ∈ xs, u.oneCell' = true) (hn : n ≤ 1000000) :
    Calls Try.prog 70 #[.slice l.A n l.c] w fun e w' => ∃ l' : Loc, e = .returned (.slice l'.A n l'.c) ∧ w'.ownsRow w.heap.size 30 6 (.slice l'.A n l'.c) n xs ∧ Below w.heap.size w w' := by
  have h := h0.reads (by omega)
  clear h0
  obtain ⟨A, c⟩ := l
  dsimp only at h ⊢
  cases A with
  | none =>
    have hn0 : n = 0 := by
      rcases Nat.eq_zero_or_pos n with h0 | h0
      · exact h0
      · obtain ⟨ad, e, _⟩ := h.2 h0
        cases e
    have hx0 : xs = [] := List.eq_nil_of_length_eq_zero (by rw [h.1, hn0])
    subst hn0
    subst hx0
    have hq := fun wx => Lib.run_eql_slice_nil (P := Try.prog) wx 28 30 none 0 c 0 0 Try.underlying28
    go_enter Try.func70, Try.ntmps70
    go_wp2
    go_ret
    exact ⟨⟨none, 0⟩, rfl, World.ownsRow_nil _ _ _ _, Below.refl _ _⟩
  | some ad =>
    obtain ⟨i0, hi, hz0, hz1, hz2⟩ := info_parts infoExpr
    have hr0 : (w.alloc (.cells #[] 30)).ownsRow w.heap.size 30 6 (.slice (some ⟨w.heap.size, 0, none⟩) 0 0) 0 [] := World.ownsRow_made w #[] 0 (Nat.le_refl _) (by unfold maxLen; omega) rfl
    have hB0 := (Below.refl w.heap.size w).alloc (Nat.le_refl _) (.cells #[] 30)
    have hrd : Reads (w.alloc (.cells #[] 30)) w.heap.size 6 (some ad) n xs := ⟨h.1, fun hn => by
      obtain ⟨ad', e, hb, hc⟩ := h.2 hn
      exact ⟨ad', e, hb, fun j u hu => cell_later hB0 (hc j u hu)⟩⟩
    have hq := fun wx => Lib.run_eql_slice_nil (P := Try.prog) wx 28 30 (some ad) n c 0 0 Try.underlying28
    go_enter Try.func70, Try.ntmps70
    go_wp2_with (at_builtin; refine wpList_append_any _ rfl (.tmp 5) (.tmp 6) 28 rfl w.heap.size 30 i0 _ 6 56 Try.underlying28 hi hz0 hz1 hz2 rfl (by omega) (.slice (some ⟨w.heap.size, 0, none⟩) 0 0) 0 [] rfl hr0 w.heap.size (some ad) n c xs rfl hrd h1 (by simp only [maxLen]; omega) (by omega) hB0.size ?_; intro v1 w1 hown1 hg1 _; have hB1 := hB0.grown hg1 hB0.size (fun k hk => (hr0.lt k hk).1))
    go_ret
    rw [Nat.zero_add, List.nil_append] at hown1
    obtain ⟨A', c', rfl⟩ := own_form hown1
    exact ⟨⟨A', c'⟩, rfl, hown1, hB1⟩
theorem infoStmt : (Try.prog.info? 51).map (fun i => (i.zero, i.size, i.bytes)) = some (some (.agg #[.int .u8 0, .string ⟨#[]⟩, .slice none 0 0, .int .i64 0, .slice none 0 0, .slice none 0 0]), 6, 104) := by kernel_rfl
set_option maxRecDepth 100000 in
theorem cloneStmt (l : Loc) (n : Nat) (xs : List Value) (w : World) (h0 : RowIn w 6 l n xs) (h1 : ∀ u ∈ xs, u.oneCell' = true) (hn : n ≤ 1000000) :
    Calls Try.prog 71 #[.slice l.A n l.c] w fun e w' => ∃ l' : Loc, e = .returned (.slice l'.A n l'.c) ∧ w'.ownsRow w.heap.size 51 6 (.slice l'.A n l'.c) n xs ∧ Below w.heap.size w w' := by
  have h := h0.reads (by omega)
  clear h0
  obtain ⟨A, c⟩ := l
  dsimp only at h ⊢
  cases A with
  | none =>
    have hn0 : n = 0 := by
      rcases Nat.eq_zero_or_pos n with h0 | h0
      · exact h0
      · obtain ⟨ad, e, _⟩ := h.2 h0
        cases e
    have hx0 : xs = [] := List.eq_nil_of_length_eq_zero (by rw [h.1, hn0])
    subst hn0
    subst hx0
    have hq := fun wx => Lib.run_eql_slice_nil (P := Try.prog) wx 33 51 none 0 c 0 0 Try.underlying33
    go_enter Try.func71, Try.ntmps71
    go_wp2
    go_ret
    exact ⟨⟨none, 0⟩, rfl, World.ownsRow_nil _ _ _ _, Below.refl _ _⟩
  | some ad =>
    obtain ⟨i0, hi, hz0, hz1, hz2⟩ := info_parts infoStmt
    have hr0 : (w.alloc (.cells #[] 51)).ownsRow w.heap.size 51 6 (.slice (some ⟨w.heap.size, 0, none⟩) 0 0) 0 [] := World.ownsRow_made w #[] 0 (Nat.le_refl _) (by unfold maxLen; omega) rfl
    have hB0 := (Below.refl w.heap.size w).alloc (Nat.le_refl _) (.cells #[] 51)
    have hrd : Reads (w.alloc (.cells #[] 51)) w.heap.size 6 (some ad) n xs := ⟨h.1, fun hn => by
      obtain ⟨ad', e, hb, hc⟩ := h.2 hn
      exact ⟨ad', e, hb, fun j u hu => cell_later hB0 (hc j u hu)⟩⟩
    have hq := fun wx => Lib.run_eql_slice_nil (P := Try.prog) wx 33 51 (some ad) n c 0 0 Try.underlying33
    go_enter Try.func71, Try.ntmps71
    go_wp2_with (at_builtin; refine wpList_append_any _ rfl (.tmp 5) (.tmp 6) 33 rfl w.heap.size 51 i0 _ 6 104 Try.underlying33 hi hz0 hz1 hz2 rfl (by omega) (.slice (some ⟨w.heap.size, 0, none⟩) 0 0) 0 [] rfl hr0 w.heap.size (some ad) n c xs rfl hrd h1 (by simp only [maxLen]; omega) (by omega) hB0.size ?_; intro v1 w1 hown1 hg1 _; have hB1 := hB0.grown hg1 hB0.size (fun k hk => (hr0.lt k hk).1))
    go_ret
    rw [Nat.zero_add, List.nil_append] at hown1
    obtain ⟨A', c', rfl⟩ := own_form hown1
    exact ⟨⟨A', c'⟩, rfl, hown1, hB1⟩
theorem infoDecl : (Try.prog.info? 60).map (fun i => (i.zero, i.size, i.bytes)) = some (some (.agg #[.string ⟨#[]⟩, .int .i64 0, .int .i64 0]), 3, 32) := by kernel_rfl
set_option maxRecDepth 100000 in
theorem cloneDecl (l : Loc) (n : Nat) (xs : List Value) (w : World) (h0 : RowIn w 3 l n xs) (h1 : ∀ u ∈ xs, u.oneCell' = true) (hn : n ≤ 1000000) :
    Calls Try.prog 24 #[.slice l.A n l.c] w fun e w' => ∃ l' : Loc, e = .returned (.slice l'.A n l'.c) ∧ w'.ownsRow w.heap.size 60 3 (.slice l'.A n l'.c) n xs ∧ Below w.heap.size w w' := by
  have h := h0.reads (by omega)
  clear h0
  obtain ⟨A, c⟩ := l
  dsimp only at h ⊢
  cases A with
  | none =>
    have hn0 : n = 0 := by
      rcases Nat.eq_zero_or_pos n with h0 | h0
      · exact h0
      · obtain ⟨ad, e, _⟩ := h.2 h0
        cases e
    have hx0 : xs = [] := List.eq_nil_of_length_eq_zero (by rw [h.1, hn0])
    subst hn0
    subst hx0
    have hq := fun wx => Lib.run_eql_slice_nil (P := Try.prog) wx 24 60 none 0 c 0 0 Try.underlying24
    go_enter Try.func24, Try.ntmps24
    go_wp2
    go_ret
    exact ⟨⟨none, 0⟩, rfl, World.ownsRow_nil _ _ _ _, Below.refl _ _⟩
  | some ad =>
    obtain ⟨i0, hi, hz0, hz1, hz2⟩ := info_parts infoDecl
    have hr0 : (w.alloc (.cells #[] 60)).ownsRow w.heap.size 60 3 (.slice (some ⟨w.heap.size, 0, none⟩) 0 0) 0 [] := World.ownsRow_made w #[] 0 (Nat.le_refl _) (by unfold maxLen; omega) rfl
    have hB0 := (Below.refl w.heap.size w).alloc (Nat.le_refl _) (.cells #[] 60)
    have hrd : Reads (w.alloc (.cells #[] 60)) w.heap.size 3 (some ad) n xs := ⟨h.1, fun hn => by
      obtain ⟨ad', e, hb, hc⟩ := h.2 hn
      exact ⟨ad', e, hb, fun j u hu => cell_later hB0 (hc j u hu)⟩⟩
    have hq := fun wx => Lib.run_eql_slice_nil (P := Try.prog) wx 24 60 (some ad) n c 0 0 Try.underlying24
    go_enter Try.func24, Try.ntmps24
    go_wp2_with (at_builtin; refine wpList_append_any _ rfl (.tmp 5) (.tmp 6) 24 rfl w.heap.size 60 i0 _ 3 32 Try.underlying24 hi hz0 hz1 hz2 rfl (by omega) (.slice (some ⟨w.heap.size, 0, none⟩) 0 0) 0 [] rfl hr0 w.heap.size (some ad) n c xs rfl hrd h1 (by simp only [maxLen]; omega) (by omega) hB0.size ?_; intro v1 w1 hown1 hg1 _; have hB1 := hB0.grown hg1 hB0.size (fun k hk => (hr0.lt k hk).1))
    go_ret
    rw [Nat.zero_add, List.nil_append] at hown1
    obtain ⟨A', c', rfl⟩ := own_form hown1
    exact ⟨⟨A', c'⟩, rfl, hown1, hB1⟩
theorem infoInit : (Try.prog.info? 44).map (fun i => (i.zero, i.size, i.bytes)) = some (some (.agg #[.int .i64 0, .int .u8 0, .int .u8 0, .int .u32 0, .int .i64 0, .string ⟨#[]⟩, .slice none 0 0]), 7, 64) := by kernel_rfl
set_option maxRecDepth 100000 in
theorem cloneInit (l : Loc) (n : Nat) (xs : List Value) (w : World) (h0 : RowIn w 7 l n xs) (h1 : ∀ u ∈ xs, u.oneCell' = true) (hn : n ≤ 1000000) :
    Calls Try.prog 35 #[.slice l.A n l.c] w fun e w' => ∃ l' : Loc, e = .returned (.slice l'.A n l'.c) ∧ w'.ownsRow w.heap.size 44 7 (.slice l'.A n l'.c) n xs ∧ Below w.heap.size w w' := by
  have h := h0.reads (by omega)
  clear h0
  obtain ⟨A, c⟩ := l
  dsimp only at h ⊢
  cases A with
  | none =>
    have hn0 : n = 0 := by
      rcases Nat.eq_zero_or_pos n with h0 | h0
      · exact h0
      · obtain ⟨ad, e, _⟩ := h.2 h0
        cases e
    have hx0 : xs = [] := List.eq_nil_of_length_eq_zero (by rw [h.1, hn0])
    subst hn0
    subst hx0
    have hq := fun wx => Lib.run_eql_slice_nil (P := Try.prog) wx 31 44 none 0 c 0 0 Try.underlying31
    go_enter Try.func35, Try.ntmps35
    go_wp2
    go_ret
    exact ⟨⟨none, 0⟩, rfl, World.ownsRow_nil _ _ _ _, Below.refl _ _⟩
  | some ad =>
    obtain ⟨i0, hi, hz0, hz1, hz2⟩ := info_parts infoInit
    have hr0 : (w.alloc (.cells #[] 44)).ownsRow w.heap.size 44 7 (.slice (some ⟨w.heap.size, 0, none⟩) 0 0) 0 [] := World.ownsRow_made w #[] 0 (Nat.le_refl _) (by unfold maxLen; omega) rfl
    have hB0 := (Below.refl w.heap.size w).alloc (Nat.le_refl _) (.cells #[] 44)
    have hrd : Reads (w.alloc (.cells #[] 44)) w.heap.size 7 (some ad) n xs := ⟨h.1, fun hn => by
      obtain ⟨ad', e, hb, hc⟩ := h.2 hn
      exact ⟨ad', e, hb, fun j u hu => cell_later hB0 (hc j u hu)⟩⟩
    have hq := fun wx => Lib.run_eql_slice_nil (P := Try.prog) wx 31 44 (some ad) n c 0 0 Try.underlying31
    go_enter Try.func35, Try.ntmps35
    go_wp2_with (at_builtin; refine wpList_append_any _ rfl (.tmp 5) (.tmp 6) 31 rfl w.heap.size 44 i0 _ 7 64 Try.underlying31 hi hz0 hz1 hz2 rfl (by omega) (.slice (some ⟨w.heap.size, 0, none⟩) 0 0) 0 [] rfl hr0 w.heap.size (some ad) n c xs rfl hrd h1 (by simp only [maxLen]; omega) (by omega) hB0.size ?_; intro v1 w1 hown1 hg1 _; have hB1 := hB0.grown hg1 hB0.size (fun k hk => (hr0.lt k hk).1))
    go_ret
    rw [Nat.zero_add, List.nil_append] at hown1
    obtain ⟨A', c', rfl⟩ := own_form hown1
    exact ⟨⟨A', c'⟩, rfl, hown1, hB1⟩
theorem infoProc : (Try.prog.info? 46).map (fun i => (i.zero, i.size, i.bytes)) = some (some (.agg #[.string ⟨#[]⟩, .slice none 0 0, .slice none 0 0]), 3, 64) := by kernel_rfl
set_option maxRecDepth 100000 in
theorem cloneProc (l : Loc) (n : Nat) (xs : List Value) (w : World) (h0 : RowIn w 3 l n xs) (h1 : ∀ u ∈ xs, u.oneCell' = true) (hn : n ≤ 1000000) :
    Calls Try.prog 36 #[.slice l.A n l.c] w fun e w' => ∃ l' : Loc, e = .returned (.slice l'.A n l'.c) ∧ w'.ownsRow w.heap.size 46 3 (.slice l'.A n l'.c) n xs ∧ Below w.heap.size w w' := by
  have h := h0.reads (by omega)
  clear h0
  obtain ⟨A, c⟩ := l
  dsimp only at h ⊢
  cases A with
  | none =>
    have hn0 : n = 0 := by
      rcases Nat.eq_zero_or_pos n with h0 | h0
      · exact h0
      · obtain ⟨ad, e, _⟩ := h.2 h0
        cases e
    have hx0 : xs = [] := List.eq_nil_of_length_eq_zero (by rw [h.1, hn0])
    subst hn0
    subst hx0
    have hq := fun wx => Lib.run_eql_slice_nil (P := Try.prog) wx 32 46 none 0 c 0 0 Try.underlying32
    go_enter Try.func36, Try.ntmps36
    go_wp2
    go_ret
    exact ⟨⟨none, 0⟩, rfl, World.ownsRow_nil _ _ _ _, Below.refl _ _⟩
  | some ad =>
    obtain ⟨i0, hi, hz0, hz1, hz2⟩ := info_parts infoProc
    have hr0 : (w.alloc (.cells #[] 46)).ownsRow w.heap.size 46 3 (.slice (some ⟨w.heap.size, 0, none⟩) 0 0) 0 [] := World.ownsRow_made w #[] 0 (Nat.le_refl _) (by unfold maxLen; omega) rfl
    have hB0 := (Below.refl w.heap.size w).alloc (Nat.le_refl _) (.cells #[] 46)
    have hrd : Reads (w.alloc (.cells #[] 46)) w.heap.size 3 (some ad) n xs := ⟨h.1, fun hn => by
      obtain ⟨ad', e, hb, hc⟩ := h.2 hn
      exact ⟨ad', e, hb, fun j u hu => cell_later hB0 (hc j u hu)⟩⟩
    have hq := fun wx => Lib.run_eql_slice_nil (P := Try.prog) wx 32 46 (some ad) n c 0 0 Try.underlying32
    go_enter Try.func36, Try.ntmps36
    go_wp2_with (at_builtin; refine wpList_append_any _ rfl (.tmp 5) (.tmp 6) 32 rfl w.heap.size 46 i0 _ 3 64 Try.underlying32 hi hz0 hz1 hz2 rfl (by omega) (.slice (some ⟨w.heap.size, 0, none⟩) 0 0) 0 [] rfl hr0 w.heap.size (some ad) n c xs rfl hrd h1 (by simp only [maxLen]; omega) (by omega) hB0.size ?_; intro v1 w1 hown1 hg1 _; have hB1 := hB0.grown hg1 hB0.size (fun k hk => (hr0.lt k hk).1))
    go_ret
    rw [Nat.zero_add, List.nil_append] at hown1
    obtain ⟨A', c', rfl⟩ := own_form hown1
    exact ⟨⟨A', c'⟩, rfl, hown1, hB1⟩
end Go.Proofs.Ytnldbplphgfpeaa
