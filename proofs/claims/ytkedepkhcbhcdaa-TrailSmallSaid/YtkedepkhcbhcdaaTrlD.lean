/- Trails: Assign. -/
import Derived.Test.YtkedepkhcbhcdaaTrlC
import Derived.StillTailTactics
namespace Go.Proofs.Ytkedepkhcbhcdaa
open Go Go.RowKit
set_option linter.unusedVariables false
set_option linter.unusedSimpArgs false
set_option maxHeartbeats 4000000
theorem isV_var (D : Trl) (l : Int) (hn : D.n ≤ 1048576) (h : isV D l = true) : 1 ≤ varL l ∧ varL l ≤ D.n ∧ (l = varL l ∨ l = -varL l) ∧ l ≠ 0 ∧ -(D.n : Int) ≤ l ∧ l ≤ D.n := by
  simp [isV] at h
  have hr : rightL l = true := by simp [rightL]; omega
  have hvl : varL l = if l < 0 then -l else l := by rw [varL, hr]; rfl
  rw [hvl]
  split <;> omega
theorem isV_no (D : Trl) (l : Int) (h : isV D l = false) : varL l < 1 ∨ (D.n : Int) < varL l := by
  simp [isV] at h
  by_cases hr : rightL l = true
  · have hvl : varL l = if l < 0 then -l else l := by rw [varL, hr]; rfl
    simp [rightL] at hr
    rw [hvl]
    split <;> omega
  · have hvl : varL l = 0 := by rw [varL]; simp [hr]
    omega
theorem varL_bd (l : Int) : 0 ≤ varL l ∧ varL l ≤ 1048576 := by
  unfold varL rightL
  split
  · rename_i hr
    simp at hr
    split <;> omega
  · omega
/-- A trail whose table has been written, and whose order has not. -/
structure Hlf (W : World) (base d : Nat) (vs vo vt : Value) (D D' : Trl) : Prop where
  hd : Blk W d 63 #[vs, vo, vt, .bool true]
  hv : W.ownsRow base 73 4 vs (D.n + 1) (encSs (tab D'.n D'.its))
  ho : W.ownsRow base 27 1 vo D.its.length (litV (lits D))
  ht : W.ownsRow base 3 1 vt D.st.length (litV (sts D))
  bd : base ≤ d
section
variable {w w' : World} {base d : Nat} {vs vo vt : Value} {D D' : Trl}
theorem Hlf.new (h : Hlf w base d vs vo vt D D') (hb : Below w.heap.size w w') : Hlf w' base d vs vo vt D D' :=
  ⟨h.hd.below hb h.hd.lt, own_only h.hv (only_of_below [] hb) (by simp), own_only h.ho (only_of_below [] hb) (by simp), own_only h.ht (only_of_below [] hb) (by simp), h.bd⟩
theorem half_mk {g c : Nat} (h : Trm w base d (.slice (some ⟨g, 0, none⟩) (D.n + 1) c) vo vt D) (v : Nat) (hv : v ≤ D.n) (x : Sta) (hD : (tab D.n D.its).set v x = tab D'.n D'.its) :
    Hlf ((((w.setCell ⟨g, v * 4, none⟩ (.int .i64 x.1)).setCell ⟨g, v * 4 + 1, none⟩ (.int .i64 x.2.1)).setCell ⟨g, v * 4 + 2, none⟩ (.int .i64 x.2.2.1)).setCell ⟨g, v * 4 + 3, none⟩ (.int .i64 x.2.2.2)) base d (.slice (some ⟨g, 0, none⟩) (D.n + 1) c) vo vt D D' ∧
    Only [g] w ((((w.setCell ⟨g, v * 4, none⟩ (.int .i64 x.1)).setCell ⟨g, v * 4 + 1, none⟩ (.int .i64 x.2.1)).setCell ⟨g, v * 4 + 2, none⟩ (.int .i64 x.2.2.1)).setCell ⟨g, v * 4 + 3, none⟩ (.int .i64 x.2.2.2)) := by
  have s1 := (h.hv.stored (v * 4) (.int .i64 x.1)).1
  have s2 := (s1.stored (v * 4 + 1) (.int .i64 x.2.1)).1
  have s3 := (s2.stored (v * 4 + 2) (.int .i64 x.2.2.1)).1
  have s4 := (s3.stored (v * 4 + 3) (.int .i64 x.2.2.2)).1
  rw [← encSs_set _ v x (by rw [tab_len]; omega), hD] at s4
  have hO := ((((Only.refl [g] w).setCell (p := ⟨g, v * 4, none⟩) (.inl (by simp)) (.int .i64 x.1)).setCell (p := ⟨g, v * 4 + 1, none⟩) (.inl (by simp)) (.int .i64 x.2.1)).setCell (p := ⟨g, v * 4 + 2, none⟩) (.inl (by simp)) (.int .i64 x.2.2.1)).setCell (p := ⟨g, v * 4 + 3, none⟩) (.inl (by simp)) (.int .i64 x.2.2.2)
  have hdg : d ∉ [g] := fun hm => by rw [List.mem_singleton] at hm; exact own_blk_ne h.hv h.hd (by decide) (by rw [hm]; rfl)
  refine ⟨⟨h.hd.only hO hdg, s4, own_only h.ho hO (fun k hk hm => ?_), own_only h.ht hO (fun k hk hm => ?_), h.bd⟩, hO⟩
  · rw [List.mem_singleton] at hm
    exact own_kinds h.ho h.hv (by decide) k hk (by rw [hm]; rfl)
  · rw [List.mem_singleton] at hm
    exact own_kinds h.ht h.hv (by decide) k hk (by rw [hm]; rfl)
theorem assign_fin {w1 : World} {A : Option Addr} {n L : Nat} {u : Value} {l r : Int} (hL : L = D.its.length) (h : Hlf w base d vs (.slice A L n) vt D (asg D l r)) (hok : (asg D l r).Ok)
    (hown1 : w1.ownsRow base 27 1 u (L + 1) (litV (lits D) ++ [.int .i64 l]))
    (hgrow : w.grownBy w1 (Value.slice A L n).ownBlock) :
    Trm (w1.setCell ⟨d, 1, none⟩ u) base d vs u vt (asg D l r) := by
  have hg0 : Only (Value.slice A L n).ownBlock.toList w w1 := (Only.refl _ w).grown hgrow (fun k hk => .inl (by rw [hk]; simp))
  have hd1 := h.hd.only hg0 (notin_own (own_blk_ne h.ho h.hd (by decide)))
  have hv1 := own_only h.hv hg0 (fun k hk => notin_own (own_kinds h.hv h.ho (by decide) k hk))
  have ht1 := own_only h.ht hg0 (fun k hk => notin_own (own_kinds h.ht h.ho (by decide) k hk))
  have hs : w1.grownBy (w1.setCell ⟨d, 1, none⟩ u) (some d) := ⟨rfl, rfl, rfl, by simp [World.setCell], fun k _ hk => Below.heap_setCell _ _ _ _ (by rintro rfl; exact hk rfl)⟩
  refine ⟨by have := hd1.set_ 1 u; simpa using this, hv1.kept hs (.inr (own_blk_ne hv1 hd1 (by decide))),
    own_cast (hown1.kept hs (.inr (own_blk_ne hown1 hd1 (by decide)))) (by simp [asg, hL]) (by simp [litV, lits, asg]), ht1.kept hs (.inr (own_blk_ne ht1 hd1 (by decide))), h.bd, hok⟩
end
section
variable {w : World} {base d : Nat} {vs vo vt : Value} {D : Trl}
theorem assign_novar (h : Trm w base d vs vo vt D) (l r : Int) (hl : isV D l = false) : Calls Try.prog 13 #[.pointer (some ⟨d, 0, none⟩), .int .i64 l, .int .i64 r] w fun e w' => e = .returned (.int .i64 40) ∧ w = w' := by
  have hv := varL_bd l
  have hst := state_no h (varL l) (isV_no D l hl) (by omega)
  replace hst := Lib.hid hst
  have hi := Lib.hid (is_ok h)
  clear h hl hv
  go_enter Try.func13, Try.ntmps13
  go_wp2_with (first
    | (go_at_call 34; refine hi.out.mono ?_; rintro e w' ⟨rfl, rfl⟩)
    | (go_at_call 25; refine (var_any l).mono ?_; rintro e w' ⟨rfl, rfl⟩)
    | (go_at_call 35; refine hst.out.mono ?_; rintro e w' ⟨rfl, rfl⟩))
  go_ret
  exact ⟨rfl, rfl⟩
theorem assign_reason (h : Trm w base d vs vo vt D) (l r : Int) (hl : isV D l = true) (hr : r < 0 ∨ 1073741824 < r) : Calls Try.prog 13 #[.pointer (some ⟨d, 0, none⟩), .int .i64 l, .int .i64 r] w fun e w' => e = .returned (.int .i64 2) ∧ w = w' := by
  obtain ⟨g, c, rfl, hc⟩ := h.tabl
  obtain ⟨v1, v2, _⟩ := isV_var D l h.ok.n0 hl
  have hst := state_yes h (varL l) v1 v2
  replace hst := Lib.hid hst
  have hi := Lib.hid (is_ok h)
  clear h hl v1 v2
  rcases hr with hr | hr
  · go_enter Try.func13, Try.ntmps13
    go_wp2_with (first
      | (go_at_call 34; refine hi.out.mono ?_; rintro e w' ⟨rfl, rfl⟩)
      | (go_at_call 25; refine (var_any l).mono ?_; rintro e w' ⟨rfl, rfl⟩)
      | (go_at_call 35; refine hst.out.mono ?_; rintro e w' ⟨rfl, rfl⟩))
    go_ret
    exact ⟨rfl, rfl⟩
  · have hr2 : ¬ r < 0 := by omega
    go_enter Try.func13, Try.ntmps13
    go_wp2_with (first
      | (go_at_call 34; refine hi.out.mono ?_; rintro e w' ⟨rfl, rfl⟩)
      | (go_at_call 25; refine (var_any l).mono ?_; rintro e w' ⟨rfl, rfl⟩)
      | (go_at_call 35; refine hst.out.mono ?_; rintro e w' ⟨rfl, rfl⟩))
    go_ret
    exact ⟨rfl, rfl⟩
theorem assign_set (h : Trm w base d vs vo vt D) (l r : Int) (hl : isV D l = true) (hr1 : 0 ≤ r) (hr2 : r ≤ 1073741824) (hs : (row D.its (varL l)).2.2.2 ≠ 0) : Calls Try.prog 13 #[.pointer (some ⟨d, 0, none⟩), .int .i64 l, .int .i64 r] w fun e w' => e = .returned (.int .i64 41) ∧ w = w' := by
  obtain ⟨g, c, rfl, hc⟩ := h.tabl
  obtain ⟨v1, v2, _⟩ := isV_var D l h.ok.n0 hl
  have hst := state_yes h (varL l) v1 v2
  obtain ⟨_, _, _, q3⟩ := h.rowAt (varL l).toNat (by omega)
  rw [Int.toNat_of_nonneg (by omega)] at q3
  generalize (row D.its (varL l)).2.2.2 = x at q3 hs
  have e1 : (x != 0) = true := by simpa using hs
  replace hst := Lib.hid hst
  have hi := Lib.hid (is_ok h)
  have b1 : ¬ r < 0 := by omega
  have b2 : decide (1073741824 < r) = false := by simp; omega
  clear h hl v1 v2 hs hr1 hr2
  go_enter Try.func13, Try.ntmps13
  go_wp2_with (first
    | (go_at_call 34; refine hi.out.mono ?_; rintro e w' ⟨rfl, rfl⟩)
    | (go_at_call 25; refine (var_any l).mono ?_; rintro e w' ⟨rfl, rfl⟩)
    | (go_at_call 35; refine hst.out.mono ?_; rintro e w' ⟨rfl, rfl⟩))
  go_ret
  exact ⟨rfl, rfl⟩
set_option maxRecDepth 100000 in
theorem assign_ok (h : Trm w base d vs vo vt D) (l r : Int) (hl : isV D l = true) (hr1 : 0 ≤ r) (hr2 : r ≤ 1073741824) (hs : (row D.its (varL l)).2.2.2 = 0) : Calls Try.prog 13 #[.pointer (some ⟨d, 0, none⟩), .int .i64 l, .int .i64 r] w (Wrote w base d (fpOf d vs vo vt) (asg D l r) (.int .i64 0)) := by
  obtain ⟨i0, hi0, hz0, hz1, hz2⟩ := info_parts info27
  obtain ⟨g, c, rfl, hc⟩ := h.tabl
  obtain ⟨v1, v2, v3, v4, v5, v6⟩ := isV_var D l h.ok.n0 hl
  have hst := state_yes h (varL l) v1 v2
  obtain ⟨k, hk⟩ : ∃ k : Nat, varL l = (k : Int) := ⟨(varL l).toNat, by omega⟩
  have hk2 : k ≤ D.n := by omega
  obtain ⟨q0, q1, q2, q3⟩ := h.rowAt k hk2
  have hz := row_zero D.its k (by rw [← hk]; exact hs)
  rw [hz] at q0 q1 q2 q3
  dsimp only at q0 q1 q2 q3
  have hpos : pos D.its (k : Int) = none := by
    cases hp : pos D.its (k : Int) with
    | none => rfl
    | some i =>
      obtain ⟨x, hx, hx2⟩ := pos_some hp
      have := row_at h.ok hx (k : Int) hx2
      rw [hz] at this
      have h3 : (0 : Int) = sgn x.lit := congrArg (fun s : Sta => s.2.2.2) this
      unfold sgn at h3
      split at h3 <;> simp at h3
  have hpl : pos D.its l = none := by
    rw [pos_none] at hpos ⊢
    intro x hx
    have := hpos x hx
    omega
  have hD : (tab D.n D.its).set k ((D.st.length : Int) - 1, r, (D.its.length : Int), sgn l) = tab (asg D l r).n (asg D l r).its := by
    have := tab_snoc D.n D.its ⟨l, r, D.st.length - 1⟩ k (by show l = k ∨ l = -(k : Int); omega) hpos
    rw [show (((D.st.length - 1 : Nat)) : Int) = (D.st.length : Int) - 1 by have := h.ok.st2; omega] at this
    exact this
  have hfin := half_mk h k hk2 _ hD
  have hok := asg_ok h.ok l r v4 v5 v6 hr1 hr2 hpl
  have z0 := h.hv.frozenAt (k * 4)
  have z1 := h.hv.frozenAt (k * 4 + 1)
  have z2 := h.hv.frozenAt (k * 4 + 2)
  have z3 := h.hv.frozenAt (k * 4 + 3)
  have c1 := h.c1
  have hnow := now_ok h.drew
  have hgd : g ≠ d := fun e => own_blk_ne h.hv h.hd (by decide) (by rw [e]; rfl)
  obtain ⟨A, n, e2⟩ := own_form h.ho
  obtain ⟨L, hL⟩ : ∃ L, L = D.its.length := ⟨_, rfl⟩
  rw [← hL] at e2 hfin
  subst e2
  have hfew : L ≤ 1048576 := by have := h.ok.few; have := h.ok.n0; omega
  have hst1 := h.ok.st1
  have hst2 := h.ok.st2
  generalize hS : (D.st.length : Int) - 1 = S at hnow hfin
  have hS0 : 0 ≤ S := by omega
  have hS1 : S ≤ 1048576 := by omega
  rw [hk, Int.toNat_natCast] at hst
  have hvar : ∀ w, Calls Try.prog 25 #[.int .i64 l] w fun e w' => e = .returned (.int .i64 (k : Int)) ∧ w = w' := fun w => by rw [← hk]; exact var_any l
  have hi := is_ok h
  have hdl := h.hd.lt
  have hgl := (h.hv.lt g rfl).2
  have H := Lib.hid h
  replace hfew := Lib.hid hfew
  replace hst := Lib.hid hst
  replace hvar := Lib.hid hvar
  replace hi := Lib.hid hi
  replace hnow := Lib.hid hnow
  replace hfin := Lib.hid hfin
  replace hok := Lib.hid hok
  replace hL := Lib.hid hL
  replace hz := Lib.hid hz
  have b1 : ¬ r < 0 := by omega
  have b2 : decide (1073741824 < r) = false := by simp; omega
  clear h hs hl hk hpos hpl hD hS hst1 hst2 hr2
  go_enter Try.func13, Try.ntmps13
  go_upto_region 10 with (first
    | (go_at_call 34; refine hi.out.mono ?_; rintro e w' ⟨rfl, rfl⟩)
    | (go_at_call 25; refine (hvar.out _).mono ?_; rintro e w' ⟨rfl, rfl⟩)
    | (go_at_call 35; refine hst.out.mono ?_; rintro e w' ⟨rfl, rfl⟩))
  go_still_tail 14, (by kernel_rfl)
  refine wpStill_step (fun K hK => ?_)
  go_simp
  refine ⟨.int .i64 S, hnow.out.mono fun e w' h => ⟨h.1, h.2.symm⟩, hK _ ?_⟩
  clear hK K
  repeat still_step
  refine wpStill_step (fun K hK => ?_)
  go_simp
  refine ⟨.int .i64 (sgn l), (sign_any l).mono fun e w' h => ⟨h.1, h.2.symm⟩, hK _ ?_⟩
  clear hK K
  repeat still_step
  try refine wpStill_nil ?_
  change wpList _ _ _ _ _ w.drew
  go_upto_region 11 with fail
  obtain ⟨hH, hO⟩ := hfin.out
  clear hfin z0 z1 z2 z3 q0 q1 q2 q3
  generalize (((w.setCell ⟨g, k * 4, none⟩ (.int .i64 S)).setCell ⟨g, k * 4 + 1, none⟩ (.int .i64 r)).setCell ⟨g, k * 4 + 2, none⟩ (.int .i64 L)).setCell ⟨g, k * 4 + 3, none⟩ (.int .i64 (sgn l)) = W1 at hH hO ⊢
  have hA := (Below.refl W1.heap.size W1).alloc (Nat.le_refl _) (.cells #[.int .i64 l] 27)
  have hAd : Below W1.heap.size W1 (W1.alloc (.cells #[.int .i64 l] 27)).drew := ⟨hA.os, hA.tape, hA.output, hA.size, hA.block⟩
  have hH2 := hH.new hAd
  have hbase : base ≤ (W1.alloc (.cells #[.int .i64 l] 27)).drew.heap.size := by have := hH2.hd.lt; have := hH2.bd; omega
  have hrd : Reads (W1.alloc (.cells #[.int .i64 l] 27)).drew (W1.heap.size + 1) 1 (some ⟨W1.heap.size, 0, none⟩) 1 [.int .i64 l] := ⟨rfl, fun _ => ⟨_, rfl, by simp, fun j u hu => by
    have h0 := (Blk.new W1 27 #[.int .i64 l]).cell j
    rw [Addr.add_lit, Nat.zero_add]
    have : (W1.alloc (.cells #[.int .i64 l] 27)).drew.cell? ⟨W1.heap.size, j, none⟩ = (W1.alloc (.cells #[.int .i64 l] 27)).cell? ⟨W1.heap.size, j, none⟩ := rfl
    rw [this, h0]
    simpa using hu⟩⟩
  have e1 := hH2.hd.cell 1
  simp only [List.getElem?_toArray, List.getElem?_cons_zero, List.getElem?_cons_succ] at e1
  have hne : (Value.slice A L n).ownBlock ≠ some d := own_blk_ne hH2.ho hH2.hd (by decide)
  have hfz := hH2.hd.frozen 1
  have hdl2 := hH2.hd.lt
  have hH2 := Lib.hid hH2
  have hne := Lib.hid hne
  have hc1 := hH.hd.cell 1
  simp only [List.getElem?_toArray, List.getElem?_cons_zero, List.getElem?_cons_succ] at hc1
  have hsz : d < W1.heap.size := hH.hd.lt
  have hO := Lib.hid hO
  have hoL : (W1.alloc (.cells #[.int .i64 l] 27)).drew.ownsRow base 27 1 (.slice A L n) L (litV (lits D)) := own_cast hH2.out.ho hL.out.symm rfl
  clear hH hA
  go_wp2_with (at_builtin; refine wpList_append_any _ rfl _ _ 39 rfl base 27 i0 _ 1 8 Try.underlying39 hi0 hz0 hz1 hz2 rfl (by omega) (.slice A L n) L (litV (lits D)) rfl hoL (W1.heap.size + 1) (some ⟨W1.heap.size, 0, none⟩) 1 1 [.int .i64 l] rfl hrd (by simp [Value.oneCell']) (by have := hfew.out; simp only [maxLen]; omega) (by have := hfew.out; omega) hbase ?_; intro u w3 hown hgrow hat; obtain ⟨A5, c5, rfl⟩ := own_form hown; have hfar : w3.heap[d]? = (W1.alloc (.cells #[.int .i64 l] 27)).drew.heap[d]? := hgrow.block d hdl2 (Ne.symm hne.out); have hfz3 := (World.frozen?_of_block (a := ⟨d, 1, none⟩) hfar).trans hfz; have hcf3 := (World.cell?_of_block (a := ⟨d, 1, none⟩) hfar).trans e1; replace hfar := Lib.hid hfar)
  go_ret
  have hT := assign_fin hL.out hH2.out hok.out hown hgrow
  refine ⟨rfl, fpOf d (.slice (some ⟨g, 0, none⟩) (D.n + 1) c) (.slice A5 (L + 1) c5) vt, ⟨_, _, _, hT, rfl⟩, fun k hk => ?_, ?_⟩
  · rcases mem_fp.1 hk with hk | hk | hk | hk
    · exact .inl (mem_fp.2 (.inl hk))
    · exact .inl (mem_fp.2 (.inr (.inl hk)))
    · rcases hat with e | e
      · exact .inl (mem_fp.2 (.inr (.inr (.inl (by rw [← e]; exact hk)))))
      · rw [hk] at e
        injection e with e
        refine .inr ?_
        have := hO.out.size
        simp at e
        omega
    · exact .inl (mem_fp.2 (.inr (.inr (.inr hk))))
  · have hO2 : Only (fpOf d (.slice (some ⟨g, 0, none⟩) (D.n + 1) c) (.slice A L n) vt) w W1 := hO.out.more (fun k hk _ => by rw [List.mem_singleton] at hk; subst hk; exact mem_fp.2 (.inr (.inl rfl)))
    have hO3 := ((hO2.alloc (.cells #[.int .i64 l] 27)).drew).grown hgrow (fun k hk => .inl (mem_fp.2 (.inr (.inr (.inl hk)))))
    exact hO3.setCell (p := ⟨d, 1, none⟩) (.inl (mem_fp.2 (.inl rfl))) _
end
end Go.Proofs.Ytkedepkhcbhcdaa
