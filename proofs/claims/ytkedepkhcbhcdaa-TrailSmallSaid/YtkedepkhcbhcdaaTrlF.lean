/- Trails: Back. -/
import Derived.Test.YtkedepkhcbhcdaaTrlE
import Derived.Test.YtkedepkhcbhcdaaLift
import Derived.IntWalk
import Derived.Deep.RegionHeld3
namespace Go.Proofs.Ytkedepkhcbhcdaa
open Go Go.RowKit Go.Shelf
set_option linter.unusedVariables false
set_option linter.unusedSimpArgs false
set_option maxHeartbeats 4000000
attribute [local go_sem] Oper.semAt_some
section
variable {w : World} {base d : Nat} {vs vo vt : Value} {D : Trl}
theorem back_bad (h : Trm w base d vs vo vt D) (k : Int) (hk : k < 0 ∨ (D.st.length : Int) ≤ k) : Calls Try.prog 15 #[.pointer (some ⟨d, 0, none⟩), .int .i64 k] w fun e w' => e = .returned (.int .i64 42) ∧ Below w.heap.size w w' := by
  have hA := (Below.refl _ w).alloc (Nat.le_refl _) (.cells #[.pointer (some ⟨d, 0, none⟩)] 23)
  have hi := is_ok (h.new hA)
  have c2 := (h.new hA).c2
  have hdl := h.hd.lt
  obtain ⟨A, c, rfl⟩ := own_form h.ht
  replace hi := Lib.hid hi
  clear h
  rcases hk with hk | hk
  · go_enter Try.func15, Try.ntmps15
    go_wp2_with (go_at_call 34; refine hi.out.mono ?_; rintro e w' ⟨rfl, rfl⟩)
    go_ret
    exact ⟨rfl, hA⟩
  · have hk0 : ¬ k < 0 := by omega
    generalize D.st.length = L at *
    go_enter Try.func15, Try.ntmps15
    go_wp2_with (go_at_call 34; refine hi.out.mono ?_; rintro e w' ⟨rfl, rfl⟩)
    go_ret
    exact ⟨rfl, hA⟩
theorem back_same (h : Trm w base d vs vo vt D) : Calls Try.prog 15 #[.pointer (some ⟨d, 0, none⟩), .int .i64 ((D.st.length : Int) - 1)] w fun e w' => e = .returned (.int .i64 0) ∧ Below w.heap.size w w' := by
  have hA := (Below.refl _ w).alloc (Nat.le_refl _) (.cells #[.pointer (some ⟨d, 0, none⟩)] 23)
  have hi := is_ok (h.new hA)
  have hn := now_ok (h.new hA)
  have c2 := (h.new hA).c2
  have hdl := h.hd.lt
  have hs1 := h.ok.st2
  obtain ⟨A, c, rfl⟩ := own_form h.ht
  replace hi := Lib.hid hi
  replace hn := Lib.hid hn
  clear h
  generalize D.st.length = L at *
  have e1 : ¬ (L : Int) - 1 < 0 := by omega
  have e2 : ¬ (L : Int) ≤ (L : Int) - 1 := by omega
  go_enter Try.func15, Try.ntmps15
  go_wp2_with (first
    | (go_at_call 34; refine hi.out.mono ?_; rintro e w' ⟨rfl, rfl⟩)
    | (go_at_call 20; refine hn.out.mono ?_; rintro e w' ⟨rfl, rfl⟩))
  go_ret
  exact ⟨rfl, hA⟩
end
theorem Ordr.ck {B : Nat} {W W' : World} {base d : Nat} {A : Option Addr} {c : Nat} {ls : List Int} (h : Ordr W base d A c ls) (k : CellsKept B W W') : Ordr W' base d A c ls := by
  obtain ⟨vs, vt, hd⟩ := h.hd
  exact ⟨⟨vs, vt, hd.ck k⟩, own_ck h.ho k, h.few⟩
/-- A trail whose table is being cleared. -/
structure Clr (W : World) (base d : Nat) (vs vo vt : Value) (D : Trl) (T : List Sta) : Prop where
  hd : Blk W d 63 #[vs, vo, vt, .bool true]
  hv : W.ownsRow base 73 4 vs (D.n + 1) (encSs T)
  ho : W.ownsRow base 27 1 vo D.its.length (litV (lits D))
  ht : W.ownsRow base 3 1 vt D.st.length (litV (sts D))
theorem Clr.ck {B : Nat} {W W' : World} {base d : Nat} {vs vo vt : Value} {D : Trl} {T : List Sta} (h : Clr W base d vs vo vt D T) (k : CellsKept B W W') : Clr W' base d vs vo vt D T :=
  ⟨h.hd.ck k, own_ck h.hv k, own_ck h.ho k, own_ck h.ht k⟩
theorem Clr.ordr {W : World} {base d : Nat} {vs vt : Value} {A : Option Addr} {n c : Nat} {D : Trl} {T : List Sta} (h : Clr W base d vs (.slice A n c) vt D T) (hok : D.Ok) (hn : n = D.its.length) : Ordr W base d A c (lits D) := by
  subst hn
  have hl : (lits D).length = D.its.length := by simp [lits]
  have := hok.few
  have := hok.n0
  constructor
  · exact ⟨_, _, by rw [hl]; exact h.hd⟩
  · rw [hl]; exact h.ho
  · omega
theorem only_ck {B : Nat} {fp : List Nat} {w W W' : World} (h : Only fp w W) (k : CellsKept B W W') (hB : w.heap.size ≤ B) : Only fp w W' := by
  refine ⟨k.os.trans h.os, k.tape.trans h.tape, k.output.trans h.output, Nat.le_trans h.size k.size, fun i hi hn => ?_⟩
  have h1 : i < W.heap.size := by have := h.size; omega
  have h2 : W.heap[i]? = some W.heap[i] := Array.getElem?_eq_getElem h1
  rw [k.same i _ h2 (.inr (by omega)), ← h2]
  exact h.block i hi hn
theorem clr_store {W : World} {base d g c : Nat} {vo vt : Value} {D : Trl} {T : List Sta} (h : Clr W base d (.slice (some ⟨g, 0, none⟩) (D.n + 1) c) vo vt D T) (v : Nat) (hv : v ≤ D.n) (hT : T.length = D.n + 1) :
    Clr ((((W.setCell ⟨g, v * 4, none⟩ (.int .i64 0)).setCell ⟨g, v * 4 + 1, none⟩ (.int .i64 0)).setCell ⟨g, v * 4 + 2, none⟩ (.int .i64 0)).setCell ⟨g, v * 4 + 3, none⟩ (.int .i64 0)) base d (.slice (some ⟨g, 0, none⟩) (D.n + 1) c) vo vt D (T.set v (0, 0, 0, 0)) ∧
    Only [g] W ((((W.setCell ⟨g, v * 4, none⟩ (.int .i64 0)).setCell ⟨g, v * 4 + 1, none⟩ (.int .i64 0)).setCell ⟨g, v * 4 + 2, none⟩ (.int .i64 0)).setCell ⟨g, v * 4 + 3, none⟩ (.int .i64 0)) := by
  have s1 := (h.hv.stored (v * 4) (.int .i64 0)).1
  have s2 := (s1.stored (v * 4 + 1) (.int .i64 0)).1
  have s3 := (s2.stored (v * 4 + 2) (.int .i64 0)).1
  have s4 := (s3.stored (v * 4 + 3) (.int .i64 0)).1
  have he := encSs_set T v (0, 0, 0, 0) (by omega)
  rw [← he] at s4
  have hO := ((((Only.refl [g] W).setCell (p := ⟨g, v * 4, none⟩) (.inl (by simp)) (.int .i64 0)).setCell (p := ⟨g, v * 4 + 1, none⟩) (.inl (by simp)) (.int .i64 0)).setCell (p := ⟨g, v * 4 + 2, none⟩) (.inl (by simp)) (.int .i64 0)).setCell (p := ⟨g, v * 4 + 3, none⟩) (.inl (by simp)) (.int .i64 0)
  have hdg : d ∉ [g] := fun hm => by rw [List.mem_singleton] at hm; exact own_blk_ne h.hv h.hd (by decide) (by rw [hm]; rfl)
  refine ⟨⟨h.hd.only hO hdg, s4, own_only h.ho hO (fun k hk hm => ?_), own_only h.ht hO (fun k hk hm => ?_)⟩, hO⟩
  · rw [List.mem_singleton] at hm
    exact own_kinds h.ho h.hv (by decide) k hk (by rw [hm]; rfl)
  · rw [List.mem_singleton] at hm
    exact own_kinds h.ht h.hv (by decide) k hk (by rw [hm]; rfl)
theorem cleared_ge (D : Trl) (e k : Nat) (h : D.its.length ≤ k) : cleared D e k = cleared D e D.its.length := by
  unfold cleared
  rw [List.take_of_length_le (i := k - e) (by rw [List.length_drop]; omega), List.take_of_length_le (i := D.its.length - e) (by rw [List.length_drop]; omega)]
theorem own_take {w : World} {base n c : Nat} {e : TypeId} {size : Nat} {A : Option Addr} {xs : List Value} (h : w.ownsRow base e size (.slice A n c) n xs) (m : Nat) (hm : m ≤ n) : w.ownsRow base e size (.slice A m c) m (xs.take (m * size)) := by
  refine ⟨by rw [List.length_take, h.1]; exact Nat.min_eq_left (Nat.mul_le_mul_right _ hm), ?_⟩
  rcases h.2 with ⟨hv, h0⟩ | ⟨g, cap, cur, hv, hb, hg, hnc, hcm, hcs, ht⟩
  · injection hv with h1 h2 h3
    subst h1 h2 h3
    obtain rfl : m = 0 := by omega
    exact .inl ⟨rfl, rfl⟩
  · injection hv with h1 h2 h3
    subst h1 h3
    refine .inr ⟨g, c, cur, rfl, hb, hg, by omega, hcm, hcs, ?_⟩
    rw [← ht, List.take_take, Nat.min_eq_left (Nat.mul_le_mul_right _ hm)]
/-- What the range of Back keeps. -/
def BIn (w : World) (base d g c : Nat) (vo vt : Value) (D : Trl) (e bx Bf Bt : Nat) (fp : List Nat) (pre : List (Nat × Int)) (W : World) : Prop :=
  fp = [g] ∧ Blk W bx 23 #[.pointer (some ⟨d, 0, none⟩)] ∧ Blk W Bf 3 #[.int .i64 (e : Int)] ∧ Blk W Bt 23 #[.pointer (some ⟨d, 0, none⟩)] ∧ Clr W base d (.slice (some ⟨g, 0, none⟩) (D.n + 1) c) vo vt D (cleared D e (e + pre.length)) ∧ Only [g] w W ∧ (g < W.heap.size ∧ bx < W.heap.size)
theorem BIn.ck {B : Nat} {w W W' : World} {base d g c : Nat} {vo vt : Value} {D : Trl} {e bx Bf Bt : Nat} {fp : List Nat} {pre : List (Nat × Int)} (h : BIn w base d g c vo vt D e bx Bf Bt fp pre W) (k : CellsKept B W W') (hB : w.heap.size ≤ B) : BIn w base d g c vo vt D e bx Bf Bt fp pre W' :=
  ⟨h.1, h.2.1.ck k, h.2.2.1.ck k, h.2.2.2.1.ck k, h.2.2.2.2.1.ck k, only_ck h.2.2.2.2.2.1 k hB, by have := h.2.2.2.2.2.2; have := k.size; omega⟩
theorem back_fin {w W2 : World} {base d g c L cap gt T ct e k Dd : Nat} {A : Option Addr} {D : Trl} (hI4 : Clr W2 base d (.slice (some ⟨g, 0, none⟩) (D.n + 1) c) (.slice A L cap) (.slice (some ⟨gt, 0, none⟩) T ct) D (tab D.n (D.its.take e))) (hL : L = D.its.length) (hT : T = D.st.length)
    (hok : D.Ok) (hbd : base ≤ d) (he : D.st[k + 1]? = some e) (hel : e ≤ L) (hI5 : Only [g] w W2) (hDm : W2.heap[Dd]? = some (.deferred (some []))) (hDd : w.heap.size ≤ Dd) (hdl : d < w.heap.size) :
    ((W2.setCell ⟨d, 1, none⟩ (.slice A e cap)).setCell ⟨d, 2, none⟩ (.slice (some ⟨gt, 0, none⟩) (k + 1) ct)).drew.heap[Dd]? = some (.deferred (some [])) ∧
    Wrote w base d (fpOf d (.slice (some ⟨g, 0, none⟩) (D.n + 1) c) (.slice A L cap) (.slice (some ⟨gt, 0, none⟩) T ct)) (bck D k) (.int .i64 0) (.returned (.int .i64 0)) (((W2.setCell ⟨d, 1, none⟩ (.slice A e cap)).setCell ⟨d, 2, none⟩ (.slice (some ⟨gt, 0, none⟩) (k + 1) ct)).drew.putObj Dd (.deferred none)) := by
  have hk : k + 1 < D.st.length := (List.getElem?_eq_some_iff.1 he).1
  have hbk : bck D k = { D with its := D.its.take e, st := D.st.take (k + 1) } := by unfold bck; rw [if_pos hk, he]; rfl
  have hOs : Only [d] W2 ((W2.setCell ⟨d, 1, none⟩ (.slice A e cap)).setCell ⟨d, 2, none⟩ (.slice (some ⟨gt, 0, none⟩) (k + 1) ct)).drew :=
    (((Only.refl [d] W2).setCell (p := ⟨d, 1, none⟩) (.inl (by simp)) _).setCell (p := ⟨d, 2, none⟩) (.inl (by simp)) _).drew
  have hd2 := ((hI4.hd.set_ 1 (.slice A e cap)).set_ 2 (.slice (some ⟨gt, 0, none⟩) (k + 1) ct)).drew
  have hDm2 := (hOs.block Dd (Array.getElem?_eq_some_iff.1 hDm).1 (by rw [List.mem_singleton]; omega)).trans hDm
  have nd : ∀ {v : Value}, v.ownBlock ≠ some d → ∀ k, v.ownBlock = some k → k ∉ [d] := fun {v} h k hk hm => by
    rw [List.mem_singleton] at hm
    subst hm
    exact h hk
  have hv2 := own_only hI4.hv hOs (nd (own_blk_ne hI4.hv hI4.hd (by decide)))
  have ho2 := own_only (own_cast hI4.ho hL.symm rfl) hOs (nd (own_blk_ne hI4.ho hI4.hd (by decide)))
  have ht2 := own_only (own_cast hI4.ht hT.symm rfl) hOs (nd (own_blk_ne hI4.ht hI4.hd (by decide)))
  generalize ((W2.setCell ⟨d, 1, none⟩ (.slice A e cap)).setCell ⟨d, 2, none⟩ (.slice (some ⟨gt, 0, none⟩) (k + 1) ct)).drew = WF at hOs hd2 hDm2 hv2 ho2 ht2 ⊢
  refine ⟨hDm2, rfl, fpOf d (.slice (some ⟨g, 0, none⟩) (D.n + 1) c) (.slice A e cap) (.slice (some ⟨gt, 0, none⟩) (k + 1) ct), ?_, fun j hj => .inl ?_, ?_⟩
  · refine Trail.ck (B := 0) ⟨_, _, _, ⟨by simpa using hd2, ?_, ?_, ?_, hbd, bck_ok hok k⟩, rfl⟩ (CellsKept.putObj (B := 0) WF _ hDm2 rfl (Nat.zero_le _))
    · rw [hbk]; exact hv2
    · have := own_take ho2 e hel
      rw [hbk]
      exact own_cast this (by simp; omega) (by simp [litV, lits])
    · have := own_take ht2 (k + 1) (by omega)
      rw [hbk]
      exact own_cast this (by simp; omega) (by simp [litV, sts])
  · rcases mem_fp.1 hj with hj | hj | hj | hj
    · exact mem_fp.2 (.inl hj)
    · exact mem_fp.2 (.inr (.inl hj))
    · exact mem_fp.2 (.inr (.inr (.inl (by cases A <;> exact hj))))
    · exact mem_fp.2 (.inr (.inr (.inr hj)))
  · have h1 : Only (fpOf d (.slice (some ⟨g, 0, none⟩) (D.n + 1) c) (.slice A L cap) (.slice (some ⟨gt, 0, none⟩) T ct)) w WF :=
      (hI5.more (fun k hk _ => by rw [List.mem_singleton] at hk; subst hk; exact mem_fp.2 (.inr (.inl rfl)))).trans (hOs.more (fun k hk _ => by rw [List.mem_singleton] at hk; subst hk; exact mem_fp.2 (.inl rfl)))
    exact only_ck h1 (CellsKept.putObj (B := w.heap.size) WF _ hDm2 rfl hDd) (Nat.le_refl _)
set_option maxRecDepth 100000 in
theorem back_in (m : Nat) {w : World} {base d : Nat} {vs vo vt : Value} {D : Trl} (h : Trm w base d vs vo vt D) (k : Nat) (hk : k + 1 < D.st.length) :
    CallsIn Fence.wide m Try.prog 15 #[.pointer (some ⟨d, 0, none⟩), .int .i64 (k : Int)] w (Wrote w base d (fpOf d vs vo vt) (bck D k) (.int .i64 0)) := by
  obtain ⟨e, he⟩ : ∃ e, D.st[k + 1]? = some e := ⟨_, List.getElem?_eq_getElem hk⟩
  have hel := h.ok.sts e (List.mem_of_getElem? he)
  have hA := (Below.refl _ w).alloc (Nat.le_refl _) (.cells #[.pointer (some ⟨d, 0, none⟩)] 23)
  have h1 := h.new hA
  have hi := is_ok h1
  have hn := now_ok h1
  have c2 := h1.c2
  have hdl := h.hd.lt
  obtain ⟨g, c, rfl, hc⟩ := h.tabl
  obtain ⟨A, cap, e1⟩ := own_form h.ho
  obtain ⟨L, hL⟩ : ∃ L, L = D.its.length := ⟨_, rfl⟩
  rw [← hL] at e1
  subst e1
  obtain ⟨T, hT⟩ : ∃ T, T = D.st.length := ⟨_, rfl⟩
  obtain ⟨gt, ct, ht, _, hgtl⟩ := h1.ht.form (by omega)
  rw [← hT] at ht
  subst ht
  have h1t : (w.alloc (.cells #[.pointer (some ⟨d, 0, none⟩)] 23)).ownsRow base 3 1 (.slice (some ⟨gt, 0, none⟩) T ct) T (litV (sts D)) := own_cast h1.ht hT.symm rfl
  have hst := h1t.cellAt (k + 1) (by omega)
  rw [litV, sts, List.getElem?_map, List.getElem?_map, he] at hst
  simp only [Option.map_some] at hst
  have hst1 : (T : Int) ≤ 1048576 := by have := h.ok.st1; omega
  rw [← hT] at hn
  have k1 : decide ((k : Int) < 0) = false := by simp
  have k2 : decide ((T : Int) ≤ (k : Int)) = false := by simp; omega
  have k3 : ((k : Int) == (T : Int) - 1) = false := by simp; omega
  have k4 : (k : Int) + 1 < (T : Int) := by omega
  have k5 : 0 ≤ (k : Int) + 1 := by omega
  have k6 : ((k : Int) + 1).toNat = k + 1 := by omega
  have hgl := (h.hv.lt g rfl).2
  replace hi := Lib.hid hi
  replace hn := Lib.hid hn
  have H := Lib.hid h
  replace hT := Lib.hid hT
  replace hL := Lib.hid hL
  replace he := Lib.hid he
  clear h h1 h1t hk
  refine callsIn_of_wp_marks Try.func15 rfl trivial ?_ rfl
  simp only [Try.ntmps15, List.size_toArray, List.length_cons, List.length_nil, Nat.reduceAdd, Nat.reduceSub, Array.replicate_succ, Array.replicate_zero, List.push_toArray, List.append_toArray, List.nil_append, List.cons_append]
  refine wpIn_wide.2 ?_
  go_wp2_with (first
    | (go_at_call 34; refine hi.out.mono ?_; rintro e w' ⟨rfl, rfl⟩)
    | (go_at_call 20; refine hn.out.mono ?_; rintro e w' ⟨rfl, rfl⟩)
    | (go_at_call 28; refine (lits28 _ _ _).mono ?_; rintro e w' ⟨rfl, rfl⟩))
  rename_i hcont
  replace hcont := Lib.hid hcont
  have hB3 := ((hA.alloc (by simp) (.cells #[.pointer (some ⟨d, 0, none⟩)] 23)).alloc (by simp; omega) (.cells #[.int .i64 (e : Int)] 3))
  have g0 := ((Blk.new w 23 #[.pointer (some ⟨d, 0, none⟩)]).alloc (.cells #[.pointer (some ⟨d, 0, none⟩)] 23)).alloc (.cells #[.int .i64 (e : Int)] 3)
  have g1 := (Blk.new (w.alloc (.cells #[.pointer (some ⟨d, 0, none⟩)] 23)) 23 #[.pointer (some ⟨d, 0, none⟩)]).alloc (.cells #[.int .i64 (e : Int)] 3)
  have g2 := Blk.new ((w.alloc (.cells #[.pointer (some ⟨d, 0, none⟩)] 23)).alloc (.cells #[.pointer (some ⟨d, 0, none⟩)] 23)) 3 #[.int .i64 (e : Int)]
  rw [World.size_alloc] at g1
  rw [World.size_alloc, World.size_alloc] at g2
  have hH3 := H.out.new hB3
  have hsz : w.heap.size + 3 = (((w.alloc (.cells #[.pointer (some ⟨d, 0, none⟩)] 23)).alloc (.cells #[.pointer (some ⟨d, 0, none⟩)] 23)).alloc (.cells #[.int .i64 (e : Int)] 3)).heap.size := by simp
  clear hst c2 hA hi hn
  generalize hW1 : ((w.alloc (.cells #[.pointer (some ⟨d, 0, none⟩)] 23)).alloc (.cells #[.pointer (some ⟨d, 0, none⟩)] 23)).alloc (.cells #[.int .i64 (e : Int)] 3) = W1 at hB3 g0 g1 g2 hH3 hsz ⊢
  have hI0 : BIn w base d g c (.slice A L cap) (.slice (some ⟨gt, 0, none⟩) T ct) D e w.heap.size (w.heap.size + 1 + 1) (w.heap.size + 1) [g] [] W1 :=
    ⟨rfl, g0, g2, g1, ⟨hH3.hd, by show W1.ownsRow base 73 4 _ _ (encSs (cleared D e e)); rw [cleared_zero]; exact hH3.hv, hH3.ho, hH3.ht⟩, only_of_below [g] hB3, by omega⟩
  refine (wpIn_wide (n := m)).1 ?_
  refine wpIn_range rfl (enters_of Try.func40 (by kernel_rfl) rfl) (seq40 base d (w.heap.size + 1 + 1) (w.heap.size + 1) e (by have := H.out.ok.few; have := H.out.ok.n0; omega)) (fun _ => rfl)
    (BIn w base d g c (.slice A L cap) (.slice (some ⟨gt, 0, none⟩) T ct) D e w.heap.size (w.heap.size + 1 + 1) (w.heap.size + 1)) (fun _ _ _ => False)
    (fun fp => ownFrom_of fun s W W' kk hI => hI.ck kk (by omega)) (fun _ => ownFrom_of fun _ _ _ _ h => h) (fun fp pre W hI => ⟨hI.2.2.1, hI.2.2.2.1, A, cap, lits D, hI.2.2.2.2.1.ordr H.out.ok hL.out⟩) [g] (by simp; omega) hI0
    (fun pre y a' W => a' = (fun y : Nat × Int => { tmps := #[Value.pointer (some { block := d, off := 0 }), Value.int IntKind.i64 ↑k,
          Value.pointer (some { block := w.heap.size, off := 0 }), undef, Value.int IntKind.i64 0,
          Value.int IntKind.i64 ↑e, undef, Value.int IntKind.i64 y.2, Value.bool false, Value.pointer (some { block := d, off := 0 }),
          Value.bool true, Value.bool false, Value.bool false, Value.int IntKind.i64 ↑k, Value.bool false,
          Value.bool false, Value.int IntKind.i64 ↑k, Value.pointer (some { block := d, off := 0 }),
          Value.pointer (some { block := d, off := 0 }), Value.pointer (some { block := d, off := 2 }),
          Value.slice (some { block := gt, off := 0 }) T ct, Value.int IntKind.i64 ↑T, Value.bool false,
          Value.bool false, Value.bool false, Value.int IntKind.i64 ↑k, Value.pointer (some { block := d, off := 0 }),
          Value.int IntKind.i64 (↑T - 1), Value.bool false, Value.pointer (some { block := d, off := 0 }),
          Value.pointer (some { block := d, off := 0 }), Value.pointer (some { block := d, off := 2 }),
          Value.slice (some { block := gt, off := 0 }) T ct, Value.int IntKind.i64 ↑k, Value.int IntKind.i64 (↑k + 1),
          Value.pointer (some { block := gt, off := k + 1 }), Value.int IntKind.i64 ↑e,
          Value.pointer (some { block := d, off := 0 }), Value.int IntKind.i64 ↑e,
          Value.func (Fn.func 40) #[]
            #[Value.pointer (some { block := w.heap.size + 1 + 1, off := 0 }),
              Value.pointer (some { block := w.heap.size + 1, off := 0 })],
          Value.int IntKind.i64 y.1, Value.int IntKind.i64 y.2, undef, undef, undef, undef, undef, undef, undef, undef, undef, undef, undef, undef, undef,
          undef, undef, undef, undef, undef, undef, undef, undef, undef, undef, undef, undef, undef, undef], defers := [] } : Nat × Int → Act) y ∧ ∃ x, D.its[e + pre.length]? = some x ∧ x.lit = y.2) (fun _ _ _ => ownFrom_of fun _ _ _ _ h => h) ?assign ?body ?done ?hE ?stop
  case assign =>
    intro l2 m2 fp pre y W2 K hI hX hK
    have hx : ∃ x, D.its[e + pre.length]? = some x ∧ x.lit = y.2 := by
      obtain ⟨h1, A', c', ls, h2, h3⟩ := hX
      rw [h2.uniq (hI.2.2.2.2.1.ordr H.out.ok hL.out), h1, Int.toNat_natCast, lits, List.getElem?_map] at h3
      cases h4 : D.its[e + pre.length]? with
      | none => rw [h4] at h3; cases h3
      | some x => rw [h4] at h3; exact ⟨x, rfl, by simpa using h3⟩
    have hfin := hK _ W2 (Only.refl [] _) hI ⟨rfl, hx⟩
    replace hfin := Lib.hid hfin
    clear hK hX
    simp only [enc2]
    gi_wp2
    exact hfin.out
  case body =>
    rintro l2 m2 fp pre ⟨y1, y2⟩ a' W2 ⟨rfl, hI1, hI2, hI3, hI4, hI5, hI6⟩ ⟨rfl, x, hx, hxl⟩
    dsimp only at hxl
    subst hxl
    have hxo := H.out.ok.lits x (List.mem_of_getElem? hx)
    have hn0 := H.out.ok.n0
    have hr : rightL x.lit = true := by simp [rightL]; omega
    have hvl : varL x.lit = if x.lit < 0 then -x.lit else x.lit := by rw [varL, hr]; rfl
    obtain ⟨v, hv⟩ : ∃ v : Nat, varL x.lit = (v : Int) := ⟨(varL x.lit).toNat, by have := varL_bd x.lit; omega⟩
    have hv2 : x.lit = v ∨ x.lit = -(v : Int) := by rw [← hv, hvl]; split <;> omega
    have hv3 : v ≤ D.n := by omega
    have hcs := cleared_step D e (e + pre.length) v x (by omega) hx hv2
    have hvar : ∀ w, Calls Try.prog 25 #[.int .i64 x.lit] w fun e w' => e = .returned (.int .i64 (v : Int)) ∧ w = w' := fun w => by rw [← hv]; exact var_any x.lit
    have q : ∀ j, j < 4 → ∃ u, W2.cell? ⟨g, v * 4 + j, none⟩ = some u := fun j hj => ⟨_, (hI4.hv.cellAt (v * 4 + j) (by omega)).trans (List.getElem?_eq_getElem (by rw [encSs_len, cleared_len]; omega))⟩
    obtain ⟨u0, q0⟩ := q 0 (by omega)
    obtain ⟨u1, q1⟩ := q 1 (by omega)
    obtain ⟨u2, q2⟩ := q 2 (by omega)
    obtain ⟨u3, q3⟩ := q 3 (by omega)
    have z0 := hI4.hv.frozenAt (v * 4)
    have z1 := hI4.hv.frozenAt (v * 4 + 1)
    have z2 := hI4.hv.frozenAt (v * 4 + 2)
    have z3 := hI4.hv.frozenAt (v * 4 + 3)
    have b0 := hI1.cell 0
    have c0 := hI4.hd.cell 0
    simp only [List.getElem?_toArray, List.getElem?_cons_zero] at b0 c0
    rw [Nat.add_zero] at q0
    have hgd : g ≠ d := fun e => own_blk_ne hI4.hv hI4.hd (by decide) (by rw [e]; rfl)
    have v1 : (v : Int) < ((D.n : Int) + 1) := by omega
    have v2 : 0 ≤ (v : Int) := by omega
    have hI4 := Lib.hid hI4
    replace hvar := Lib.hid hvar
    replace hcs := Lib.hid hcs
    replace hx := Lib.hid hx
    clear q hvl hv hv2 hr hxo hcont
    refine wpIn_block ?_
    refine wpIn_round_tail 8 (by kernel_rfl) (by kernel_rfl) (by kernel_rfl) (fun _ _ h => h) ?_
    simp only [List.take_succ_cons, List.take_zero, List.drop_succ_cons, List.drop_zero]
    repeat still_step
    refine wpStill_step (fun K hK => ?_)
    go_simp
    refine ⟨.int .i64 (v : Int), (hvar.out _).mono fun e w' h => ⟨h.1, h.2.symm⟩, hK _ ?_⟩
    clear hK K
    repeat still_step
    try refine wpStill_nil ?_
    go_wp2
    obtain ⟨hC, hO⟩ := clr_store hI4.out v hv3 (cleared_len D e (e + pre.length))
    rw [hcs.out] at hC
    have n1 : w.heap.size ∉ [g] := by rw [List.mem_singleton]; intro hm; exact own_blk_ne hI4.out.hv hI1 (by decide) (by rw [hm]; rfl)
    have n2 : w.heap.size + 1 + 1 ∉ [g] := by rw [List.mem_singleton]; intro hm; exact own_blk_ne hI4.out.hv hI2 (by decide) (by rw [hm]; rfl)
    have n3 : w.heap.size + 1 ∉ [g] := by rw [List.mem_singleton]; intro hm; exact own_blk_ne hI4.out.hv hI3 (by decide) (by rw [hm]; rfl)
    refine ⟨hO.drew, [g], ⟨rfl, (hI1.only hO n1).drew, (hI2.only hO n2).drew, (hI3.only hO n3).drew, ?_, (hI5.trans hO).drew, by have := hO.size; simp; omega⟩, fun k hk => .inl hk⟩
    have hlen : e + (pre ++ [(y1, x.lit)]).length = e + pre.length + 1 := by simp; omega
    rw [hlen]
    exact ⟨hC.hd, hC.hv, hC.ho, hC.ht⟩
  case done =>
    rintro Dd fp xs W2 hDd ⟨A', c', ls, hE1, hE2⟩ ⟨rfl, hI1, hI2, hI3, hI4, hI5, hI6⟩ hDm
    have hls := hE1.uniq (hI4.ordr H.out.ok hL.out)
    have hln : (lits D).length = D.its.length := by simp [lits]
    rw [hls, hln, Int.toNat_natCast] at hE2
    rw [cleared_ge D e _ hE2, cleared_all H.out.ok e] at hI4
    clear hE1 hE2 hls hln hI2 hI3
    refine hcont.out _ _ ?_
    have b0 := hI1.cell 0
    have c1 := hI4.hd.cell 1
    have c2 := hI4.hd.cell 2
    simp only [List.getElem?_toArray, List.getElem?_cons_zero, List.getElem?_cons_succ] at b0 c1 c2
    have f1 := hI4.hd.frozen 1
    have f2 := hI4.hd.frozen 2
    have hdl2 := hI4.hd.lt
    have hne : w.heap.size ≠ d := by omega
    have hel2 : e ≤ L := by rw [hL.out]; exact hel
    have hcap := (own_cap H.out.ho).1
    have hcap2 := (own_cap H.out.ht).1
    have e1 : (e : Int) ≤ (cap : Int) := by omega
    have e2 : (k : Int) + 1 ≤ (ct : Int) := by omega
    have e3 : 0 ≤ (e : Int) := by omega
    have e4 : ((e : Int)).toNat = e := by omega
    clear hcont
    replace hI4 := Lib.hid hI4
    go_wp2
    have s1 : ∀ u, (W2.setCell ⟨d, 1, none⟩ u).cell? ⟨w.heap.size, 0, none⟩ = some (.pointer (some ⟨d, 0, none⟩)) := fun u => (World.cell?_setCell_far W2 ⟨d, 1, none⟩ ⟨w.heap.size, 0, none⟩ u (Ne.symm hne)).trans b0
    have s2 : ∀ u v, ((W2.setCell ⟨d, 1, none⟩ u).setCell ⟨d, 2, none⟩ v).cell? ⟨w.heap.size, 0, none⟩ = some (.pointer (some ⟨d, 0, none⟩)) := fun u v => (World.cell?_setCell_far _ ⟨d, 2, none⟩ ⟨w.heap.size, 0, none⟩ v (Ne.symm hne)).trans (s1 u)
    have hfinal := back_fin hI4.out hL.out hT.out H.out.ok H.out.bd he.out hel2 hI5 hDm (by omega) hdl
    replace hfinal := Lib.hid hfinal
    have hwk : IntKind.i64.wrap ((k : Int) + 1) = (k : Int) + 1 := IntWalk.i64_in _ (by omega)
    refine wp_region_noPanic ?_
    refine wp_region_held_drew (S := fun w' => w'.cell? ⟨w.heap.size, 0, none⟩ = some (.pointer (some ⟨d, 0, none⟩))) (by kernel_rfl) (by exact b0) (fun hHeld => ?_)
    refine wpAnyH_take (i := 0) (v := ?_) rfl (by kernel_rfl) (by kernel_rfl) (by kernel_rfl) (fun _ _ _ h => h) (Or.inl ⟨by rfl, ?_⟩) (by assumption) ?_
    rotate_left
    · intro w hSw; (try dsimp only at hSw); (first | (go_simp; done) | (go_simp; with_reducible rfl))
    try simp only [Act.put, List.setIfInBounds_toArray, List.set_cons_zero, List.set_cons_succ]
    refine wpAnyH_take (i := 1) (v := ?_) rfl (by kernel_rfl) (by kernel_rfl) (by kernel_rfl) (fun _ _ _ h => h) (Or.inl ⟨by rfl, ?_⟩) (by assumption) ?_
    rotate_left
    · intro w hSw; (try dsimp only at hSw); (first | (go_simp; done) | (go_simp; with_reducible rfl))
    try simp only [Act.put, List.setIfInBounds_toArray, List.set_cons_zero, List.set_cons_succ]
    refine wpAnyH_take (i := 2) (v := ?_) rfl (by kernel_rfl) (by kernel_rfl) (by kernel_rfl) (fun _ _ _ h => h) (Or.inl ⟨by rfl, ?_⟩) (by assumption) ?_
    rotate_left
    · intro w hSw; (try dsimp only at hSw); (first | (go_simp; done) | (go_simp; with_reducible rfl))
    try simp only [Act.put, List.setIfInBounds_toArray, List.set_cons_zero, List.set_cons_succ]
    refine wpAnyH_take (i := 8) (v := ?_) rfl (by kernel_rfl) (by kernel_rfl) (by kernel_rfl) (fun _ _ _ h => h) (Or.inl ⟨by rfl, ?_⟩) (by assumption) ?_
    rotate_left
    · intro w hSw; (try dsimp only at hSw); (first | (go_simp; done) | (go_simp; with_reducible rfl))
    try simp only [Act.put, List.setIfInBounds_toArray, List.set_cons_zero, List.set_cons_succ]
    refine wpAnyH_take (i := 6) (v := ?_) rfl (by kernel_rfl) (by kernel_rfl) (by kernel_rfl) (fun _ _ _ h => h) (Or.inl ⟨by rfl, ?_⟩) (by assumption) ?_
    rotate_left
    · intro w hSw; (try dsimp only at hSw); (first | (go_simp; done) | (go_simp; with_reducible rfl))
    try simp only [Act.put, List.setIfInBounds_toArray, List.set_cons_zero, List.set_cons_succ]
    refine wpAnyH_take (i := 12) (v := ?_) rfl (by kernel_rfl) (by kernel_rfl) (by kernel_rfl) (fun _ _ _ h => h) (Or.inl ⟨by rfl, ?_⟩) (by assumption) ?_
    rotate_left
    · intro w hSw; (try dsimp only at hSw); (first | (go_simp; done) | (go_simp; with_reducible rfl))
    try simp only [Act.put, List.setIfInBounds_toArray, List.set_cons_zero, List.set_cons_succ]
    refine wpAnyH_take (i := 13) (v := ?_) rfl (by kernel_rfl) (by kernel_rfl) (by kernel_rfl) (fun _ _ _ h => h) (Or.inl ⟨by rfl, ?_⟩) (by assumption) ?_
    rotate_left
    · intro w hSw; (try dsimp only at hSw); (first | (go_simp; done) | (go_simp; with_reducible rfl))
    try simp only [Act.put, List.setIfInBounds_toArray, List.set_cons_zero, List.set_cons_succ]
    refine wpAnyH_take (i := 3) (v := ?_) rfl (by kernel_rfl) (by kernel_rfl) (by kernel_rfl) (fun _ _ _ h => h) (Or.inl ⟨by rfl, ?_⟩) (by assumption) ?_
    rotate_left
    · intro w hSw; (try dsimp only at hSw); (first | (go_simp; done) | (go_simp; with_reducible rfl))
    try simp only [Act.put, List.setIfInBounds_toArray, List.set_cons_zero, List.set_cons_succ]
    refine wpAnyH_take (i := 4) (v := ?_) rfl (by kernel_rfl) (by kernel_rfl) (by kernel_rfl) (fun _ _ _ h => h) (Or.inl ⟨by rfl, ?_⟩) (by assumption) ?_
    rotate_left
    · intro w hSw; (try dsimp only at hSw); (first | (go_simp; done) | (go_simp; with_reducible rfl))
    try simp only [Act.put, List.setIfInBounds_toArray, List.set_cons_zero, List.set_cons_succ]
    refine wpAnyH_take (i := 9) (v := ?_) rfl (by kernel_rfl) (by kernel_rfl) (by kernel_rfl) (fun _ _ _ h => h) (Or.inl ⟨by rfl, ?_⟩) (by assumption) ?_
    rotate_left
    · intro w hSw; (try dsimp only at hSw); (first | (go_simp; done) | (go_simp; with_reducible rfl))
    try simp only [Act.put, List.setIfInBounds_toArray, List.set_cons_zero, List.set_cons_succ]
    refine wpAnyH_take (i := 10) (v := ?_) rfl (by kernel_rfl) (by kernel_rfl) (by kernel_rfl) (fun _ _ _ h => h) (Or.inl ⟨by rfl, ?_⟩) (by assumption) ?_
    rotate_left
    · intro w hSw; (try dsimp only at hSw); (first | (go_simp; done) | (go_simp; with_reducible rfl))
    try simp only [Act.put, List.setIfInBounds_toArray, List.set_cons_zero, List.set_cons_succ]
    refine wpAnyH_ready (rs := [5, 11]) (by kernel_rfl) (by simp) ?_
    refine AllReadyH.cons rfl (fun K hK => ?_) ?_
    · go_simp
      refine hK.out _ _ (by first | exact hHeld | exact s1 _ | exact s2 _ _) (fun hHeld => ?_)
      clear hK K
      try simp only [Act.put, List.setIfInBounds_toArray, List.set_cons_zero, List.set_cons_succ]
      refine wpAnyH_take (i := 7) (v := ?_) rfl (by kernel_rfl) (by kernel_rfl) (by kernel_rfl) (fun _ _ _ h => h) (Or.inl ⟨by rfl, ?_⟩) (by assumption) ?_
      rotate_left
      · intro w hSw; (try dsimp only at hSw); (first | (go_simp; done) | (go_simp; with_reducible rfl))
      try simp only [Act.put, List.setIfInBounds_toArray, List.set_cons_zero, List.set_cons_succ]
      refine wpAnyH_ready (rs := [11]) (by kernel_rfl) (by simp) ?_
      refine AllReadyH.cons rfl (fun K hK => ?_) ?_
      · go_simp
        refine hK.out _ _ (by first | exact hHeld | exact s1 _ | exact s2 _ _) (fun hHeld => ?_)
        clear hK K
        try simp only [Act.put, List.setIfInBounds_toArray, List.set_cons_zero, List.set_cons_succ]
        refine wpAnyH_take (i := 14) (v := ?_) rfl (by kernel_rfl) (by kernel_rfl) (by kernel_rfl) (fun _ _ _ h => h) (Or.inl ⟨by rfl, ?_⟩) (by assumption) ?_
        rotate_left
        · intro w hSw; (try dsimp only at hSw); (first | (go_simp; done) | (go_simp; with_reducible rfl))
        try simp only [Act.put, List.setIfInBounds_toArray, List.set_cons_zero, List.set_cons_succ]
        refine wpAnyH_take (i := 15) (v := ?_) rfl (by kernel_rfl) (by kernel_rfl) (by kernel_rfl) (fun _ _ _ h => h) (Or.inl ⟨by rfl, ?_⟩) (by assumption) ?_
        rotate_left
        · intro w hSw; (try dsimp only at hSw); (first | (go_simp; done) | (go_simp; with_reducible rfl))
        try simp only [Act.put, List.setIfInBounds_toArray, List.set_cons_zero, List.set_cons_succ]
        refine wpAnyH_take (i := 16) (v := ?_) rfl (by kernel_rfl) (by kernel_rfl) (by kernel_rfl) (fun _ _ _ h => h) (Or.inl ⟨by rfl, ?_⟩) (by assumption) ?_
        rotate_left
        · intro w hSw; (try dsimp only at hSw); (first | (go_simp; done) | (go_simp; with_reducible rfl))
        try simp only [Act.put, List.setIfInBounds_toArray, List.set_cons_zero, List.set_cons_succ]
        refine wpAnyH_ready (rs := [17]) (by kernel_rfl) (by simp) ?_
        refine AllReadyH.cons rfl (fun K hK => ?_) ?_
        · go_simp
          refine hK.out _ _ (by first | exact hHeld | exact s1 _ | exact s2 _ _) (fun hHeld => ?_)
          clear hK K
          try simp only [Act.put, List.setIfInBounds_toArray, List.set_cons_zero, List.set_cons_succ]
          refine wpAnyH_take (i := 18) (v := ?_) rfl (by kernel_rfl) (by kernel_rfl) (by kernel_rfl) (fun _ _ _ h => h) (Or.inl ⟨by rfl, ?_⟩) (by assumption) ?_
          rotate_left
          · intro w hSw; (try dsimp only at hSw); (first | (go_simp; done) | (go_simp; with_reducible rfl))
          try simp only [Act.put, List.setIfInBounds_toArray, List.set_cons_zero, List.set_cons_succ]
          refine wpAnyH_take (i := 19) (v := ?_) rfl (by kernel_rfl) (by kernel_rfl) (by kernel_rfl) (fun _ _ _ h => h) (Or.inl ⟨by rfl, ?_⟩) (by assumption) ?_
          rotate_left
          · intro w hSw; (try dsimp only at hSw); (first | (go_simp; done) | (go_simp; with_reducible rfl))
          try simp only [Act.put, List.setIfInBounds_toArray, List.set_cons_zero, List.set_cons_succ]
          refine wpAnyH_ready (rs := [20]) (by kernel_rfl) (by simp) ?_
          refine AllReadyH.cons rfl (fun K hK => ?_) ?_
          · go_simp
            refine hK.out _ _ (by first | exact hHeld | exact s1 _ | exact s2 _ _) (fun hHeld => ?_)
            clear hK K
            try simp only [Act.put, List.setIfInBounds_toArray, List.set_cons_zero, List.set_cons_succ]
            refine wpAnyH_done (by kernel_rfl) ?_ _
            refine NoPanic.normal ?_
            go_wp2
            exact leaves_one hfinal.out.1 ⟨.int .i64 0, by simp [results, Try.results15, go_sem], hfinal.out.2⟩
          exact AllReadyH.nil
        exact AllReadyH.nil
      exact AllReadyH.nil
    refine AllReadyH.cons rfl (fun K hK => ?_) ?_
    · go_simp
      refine hK.out _ _ (by first | exact hHeld | exact s1 _ | exact s2 _ _) (fun hHeld => ?_)
      clear hK K
      try simp only [Act.put, List.setIfInBounds_toArray, List.set_cons_zero, List.set_cons_succ]
      refine wpAnyH_take (i := 14) (v := ?_) rfl (by kernel_rfl) (by kernel_rfl) (by kernel_rfl) (fun _ _ _ h => h) (Or.inl ⟨by rfl, ?_⟩) (by assumption) ?_
      rotate_left
      · intro w hSw; (try dsimp only at hSw); (first | (go_simp; done) | (go_simp; with_reducible rfl))
      try simp only [Act.put, List.setIfInBounds_toArray, List.set_cons_zero, List.set_cons_succ]
      refine wpAnyH_ready (rs := [5]) (by kernel_rfl) (by simp) ?_
      refine AllReadyH.cons rfl (fun K hK => ?_) ?_
      · go_simp
        refine hK.out _ _ (by first | exact hHeld | exact s1 _ | exact s2 _ _) (fun hHeld => ?_)
        clear hK K
        try simp only [Act.put, List.setIfInBounds_toArray, List.set_cons_zero, List.set_cons_succ]
        refine wpAnyH_take (i := 7) (v := ?_) rfl (by kernel_rfl) (by kernel_rfl) (by kernel_rfl) (fun _ _ _ h => h) (Or.inl ⟨by rfl, ?_⟩) (by assumption) ?_
        rotate_left
        · intro w hSw; (try dsimp only at hSw); (first | (go_simp; done) | (go_simp; with_reducible rfl))
        try simp only [Act.put, List.setIfInBounds_toArray, List.set_cons_zero, List.set_cons_succ]
        refine wpAnyH_take (i := 15) (v := ?_) rfl (by kernel_rfl) (by kernel_rfl) (by kernel_rfl) (fun _ _ _ h => h) (Or.inl ⟨by rfl, ?_⟩) (by assumption) ?_
        rotate_left
        · intro w hSw; (try dsimp only at hSw); (first | (go_simp; done) | (go_simp; with_reducible rfl))
        try simp only [Act.put, List.setIfInBounds_toArray, List.set_cons_zero, List.set_cons_succ]
        refine wpAnyH_take (i := 16) (v := ?_) rfl (by kernel_rfl) (by kernel_rfl) (by kernel_rfl) (fun _ _ _ h => h) (Or.inl ⟨by rfl, ?_⟩) (by assumption) ?_
        rotate_left
        · intro w hSw; (try dsimp only at hSw); (first | (go_simp; done) | (go_simp; with_reducible rfl))
        try simp only [Act.put, List.setIfInBounds_toArray, List.set_cons_zero, List.set_cons_succ]
        refine wpAnyH_ready (rs := [17]) (by kernel_rfl) (by simp) ?_
        refine AllReadyH.cons rfl (fun K hK => ?_) ?_
        · go_simp
          refine hK.out _ _ (by first | exact hHeld | exact s1 _ | exact s2 _ _) (fun hHeld => ?_)
          clear hK K
          try simp only [Act.put, List.setIfInBounds_toArray, List.set_cons_zero, List.set_cons_succ]
          refine wpAnyH_take (i := 18) (v := ?_) rfl (by kernel_rfl) (by kernel_rfl) (by kernel_rfl) (fun _ _ _ h => h) (Or.inl ⟨by rfl, ?_⟩) (by assumption) ?_
          rotate_left
          · intro w hSw; (try dsimp only at hSw); (first | (go_simp; done) | (go_simp; with_reducible rfl))
          try simp only [Act.put, List.setIfInBounds_toArray, List.set_cons_zero, List.set_cons_succ]
          refine wpAnyH_take (i := 19) (v := ?_) rfl (by kernel_rfl) (by kernel_rfl) (by kernel_rfl) (fun _ _ _ h => h) (Or.inl ⟨by rfl, ?_⟩) (by assumption) ?_
          rotate_left
          · intro w hSw; (try dsimp only at hSw); (first | (go_simp; done) | (go_simp; with_reducible rfl))
          try simp only [Act.put, List.setIfInBounds_toArray, List.set_cons_zero, List.set_cons_succ]
          refine wpAnyH_ready (rs := [20]) (by kernel_rfl) (by simp) ?_
          refine AllReadyH.cons rfl (fun K hK => ?_) ?_
          · go_simp
            refine hK.out _ _ (by first | exact hHeld | exact s1 _ | exact s2 _ _) (fun hHeld => ?_)
            clear hK K
            try simp only [Act.put, List.setIfInBounds_toArray, List.set_cons_zero, List.set_cons_succ]
            refine wpAnyH_done (by kernel_rfl) ?_ _
            refine NoPanic.normal ?_
            go_wp2
            exact leaves_one hfinal.out.1 ⟨.int .i64 0, by simp [results, Try.results15, go_sem], hfinal.out.2⟩
          exact AllReadyH.nil
        exact AllReadyH.nil
      exact AllReadyH.nil
    exact AllReadyH.nil
  case hE =>
    rintro xs W l o o' h1 h2 h3 ⟨A', c', ls, h4, h5⟩
    exact ⟨A', c', ls, h4.ck (CellsKept.putObj (B := 0) W _ h2 h3 (Nat.zero_le _)), h5⟩
  case stop =>
    rintro Dd c' pre W2 hDd hI hDm
    exact hI.elim
theorem back_ok {w : World} {base d : Nat} {vs vo vt : Value} {D : Trl} (h : Trm w base d vs vo vt D) (k : Nat) (hk : k + 1 < D.st.length) :
    Calls Try.prog 15 #[.pointer (some ⟨d, 0, none⟩), .int .i64 (k : Int)] w (Wrote w base d (fpOf d vs vo vt) (bck D k) (.int .i64 0)) :=
  callsIn_wide.1 (back_in 3 h k hk)
end Go.Proofs.Ytkedepkhcbhcdaa
