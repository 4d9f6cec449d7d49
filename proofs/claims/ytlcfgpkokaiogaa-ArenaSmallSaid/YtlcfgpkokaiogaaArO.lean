/- Arenas: the examples. -/
import Derived.Test.YtlcfgpkokaiogaaArN
import Derived.Deep.CutBlock
import Derived.Test.YtlcfgpkokaiogaaJoin2
namespace Go.Proofs.Ytlcfgpkokaiogaa
open Go Go.RowKit Go.Shelf
set_option linter.unusedVariables false
set_option linter.unusedSimpArgs false
set_option maxHeartbeats 4000000
attribute [local go_sem] Oper.semAt_some
theorem lit_reads (W : World) (e : TypeId) (xs : List Value) : Reads (W.alloc (.cells xs.toArray e)) (W.alloc (.cells xs.toArray e)).heap.size 1 (some ⟨W.heap.size, 0, none⟩) xs.length xs := ⟨by omega, fun _ => ⟨_, rfl, by simp, fun j u hu => by
  have h0 := (Blk.new W e xs.toArray).cell j
  rw [Addr.add_lit, Nat.zero_add, h0]
  simpa using hu⟩⟩
theorem nil_reads (W : World) : Reads W W.heap.size 1 none 0 (lits []) := Reads.none_
theorem Run.lit {W0 W : World} {fp0 : List Nat} {ts : List Thing} {d last : Nat} {al : List (Nat × List Int)} (h : Run W0 fp0 ts d al last W) (o : Obj) : Run W0 fp0 ts d al last (W.alloc o) := h.new ((Below.refl _ _).alloc (Nat.le_refl _) _)
/-- A run at a round's end. -/
theorem round_end {w V W' : World} {fp0 fpa : List Nat} {ts ts' : List Thing} {d last last' : Nat} {al al' : List (Nat × List Int)} (h0 : RunF w fp0 fpa ts d al last V) (h : Run V (allB fpa ts) ts' d al' last' W') :
    Only (allB fpa ts) V W' ∧ ∃ fpa', RunF w fp0 fpa' ts' d al' last' W' ∧ ∀ k, k ∈ allB fpa' ts' → k ∈ allB fpa ts ∨ V.heap.size ≤ k := by
  obtain ⟨fpa', h⟩ := h
  exact ⟨h.on, fpa', h.back h0.on (fun k hk => (h0.lt k hk).2), fun k hk => (h.lt k hk).2⟩
/-- The element's parts, in the frame. -/
def updC (T : Array Value) (i1 i2 j1 j2 : Nat) (y : Cl) : Act := { tmps := (((T.setIfInBounds i1 (.int .i64 (y.id : Int))).setIfInBounds i2 (.slice y.A y.ls.length y.c)).setIfInBounds j1 (.int .i64 (y.id : Int))).setIfInBounds j2 (.slice y.A y.ls.length y.c), defers := [] }
/-- Behind a round's assign: what came. -/
def AxC (f : Cl → Act) (nx : List Cl → Cl → Prop) (N : Nat) (pre : List Cl) (y : Cl) (a' : Act) (W : World) : Prop := a' = f y ∧ nx pre y ∧ W.ownsRow N 30 1 (.slice y.A y.ls.length y.c) y.ls.length (lits y.ls)
theorem own_axC {B : Nat} {f : Cl → Act} {nx : List Cl → Cl → Prop} {N : Nat} {pre : List Cl} {y : Cl} {a' : Act} : OwnFrom B (fun (_ : Unit) W => AxC f nx N pre y a' W) :=
  ownFrom_of fun _ W W' k ⟨h1, h2, h3⟩ => ⟨h1, h2, own_ck h3 k⟩
def aw1 : List (Nat × List Int) := [(1, [3, -1])]
def aw2 : List (Nat × List Int) := [(1, [3, -1]), (4, [2])]
def aw3 : List (Nat × List Int) := [(4, [2])]
def aw4 : List (Nat × List Int) := [(4, [2]), (5, [])]
/-- What the range of the examples keeps. -/
def AIn (W1 : World) (Bn Ba d : Nat) (fp : List Nat) (pre : List Cl) (W : World) : Prop :=
  ∃ fpa, RunF W1 [] fpa [blkT Bn 3 #[.int .i64 (pre.length : Int)], blkT Ba 31 #[.pointer (some ⟨d, 0, none⟩)]] d aw3 4 W ∧ fp = fpa ++ [Bn, Ba] ∧ (pre = [] ∨ pre.length = 1 ∧ lastId pre = 4)
set_option maxRecDepth 100000 in
theorem awake_in (m : Nat) (w : World) : CallsIn Fence.wide m Try.prog 12 #[] w fun e w' => e = .returned (.bool true) ∧ Below w.heap.size w w' := by
  refine callsIn_of_wp_marks Try.func12 rfl trivial ?_ rfl
  simp only [Try.ntmps12, List.size_toArray, List.length_cons, List.length_nil, Nat.reduceAdd, Nat.reduceSub, Array.replicate_succ, Array.replicate_zero, List.push_toArray, List.append_toArray, List.nil_append, List.cons_append]
  refine wpIn_wide.2 ?_
  have hb0 := Blk.new w 4 #[.bool false]
  have hA := (Below.refl _ w).alloc (Nat.le_refl _) (.cells #[.bool false] 4)
  have hsz : (w.alloc (.cells #[.bool false] 4)).heap.size = w.heap.size + 1 := by simp
  have t00 := Lib.hid trivial
  have t01 := Lib.hid trivial
  have t02 := Lib.hid trivial
  have t03 := Lib.hid trivial
  have t04 := Lib.hid trivial
  have t05 := Lib.hid trivial
  have t06 := Lib.hid trivial
  have t07 := Lib.hid trivial
  have t08 := Lib.hid trivial
  go_upto_region 1 with (fail)
  generalize w.alloc (.cells #[.bool false] 4) = W1 at *
  go_wp2_with (first
    | (go_at_call 13; refine (run_new (w := W1) (Below.refl _ _)).mono ?_; rintro e W2 ⟨d, rfl, hR⟩)
    | (go_at_call 14; clear t00; refine (run_add (al' := aw1) (last' := 1) (hR.lit _) (lit_reads _ 30 (lits [3, -1])) (Nat.le_refl _) (by decide) 1 (e := 0) (by decide +kernel) (by decide +kernel) (by decide +kernel)).mono ?_; rintro e W3 ⟨rfl, hR2⟩; clear hR; have hR := hR2; clear hR2)
    | (go_at_call 14; clear t01; refine (run_add (al' := aw2) (last' := 4) (hR.lit _) (lit_reads _ 30 (lits [2])) (Nat.le_refl _) (by decide) 4 (e := 0) (by decide +kernel) (by decide +kernel) (by decide +kernel)).mono ?_; rintro e W3 ⟨rfl, hR2⟩; clear hR; have hR := hR2; clear hR2)
    | (go_at_call 14; clear t02; refine (run_add (al' := aw2) (last' := 4) hR (nil_reads _) (Nat.le_refl _) (by decide) 4 (e := 30) (by decide +kernel) (by decide +kernel) (by decide +kernel)).mono ?_; rintro e W3 ⟨rfl, hR2⟩; clear hR; have hR := hR2; clear hR2)
    | (go_at_call 14; clear t03; refine (run_add (al' := aw2) (last' := 4) hR (nil_reads _) (Nat.le_refl _) (by decide) 2 (e := 30) (by decide +kernel) (by decide +kernel) (by decide +kernel)).mono ?_; rintro e W3 ⟨rfl, hR2⟩; clear hR; have hR := hR2; clear hR2)
    | (go_at_call 22; refine (run_count hR (n := 2) (by decide +kernel)).mono ?_; rintro e W3 ⟨rfl, rfl⟩)
    | (go_at_call 16; clear t04; refine (run_used hR (n := 3) (by decide +kernel)).mono ?_; rintro e W3 ⟨rfl, rfl⟩)
    | (go_at_call 24; refine (run_last hR (n := 4) (by decide +kernel)).mono ?_; rintro e W3 ⟨rfl, rfl⟩)
    | (go_at_call 19; clear t05; refine (run_lit hR 1 1 (by omega) (n := -1) (e := 0) (by decide +kernel) (by decide +kernel)).mono ?_; rintro e W3 ⟨rfl, hR2⟩; clear hR; have hR := hR2; clear hR2)
    | (go_at_call 19; clear t06; refine (run_lit hR 1 2 (by omega) (n := 0) (e := 2) (by decide +kernel) (by decide +kernel)).mono ?_; rintro e W3 ⟨rfl, hR2⟩; clear hR; have hR := hR2; clear hR2)
    | (go_at_call 15; clear t07; refine (run_del (al' := aw3) hR 1 (by omega) (e := 0) (by decide +kernel) (by decide +kernel)).mono ?_; rintro e W3 ⟨rfl, hR2⟩; clear hR; have hR := hR2; clear hR2)
    | (go_at_call 16; clear t08; refine (run_used hR (n := 1) (by decide +kernel)).mono ?_; rintro e W3 ⟨rfl, rfl⟩)
    | (go_at_call 23; refine (run_held hR).mono ?_; rintro e W3 ⟨nh, rfl, rfl, hh1, hh2⟩; rw [show usedL aw3 = 1 by decide +kernel] at hh1 hh2)
    | (go_at_call 20; refine (all_ok _ _).mono ?_; rintro e W3 ⟨rfl, rfl⟩))
  rename_i hcont
  replace hcont := Lib.hid hcont
  have hR3 := ((hR.fresh (t := blkT W3.heap.size 3 #[.int .i64 0]) ((Below.refl _ _).alloc (Nat.le_refl _) _) (Blk.new W3 3 #[.int .i64 0]) (by simp [blkT])).fresh (t := blkT (W3.heap.size + 1) 31 #[.pointer (some ⟨d, 0, none⟩)]) ((Below.refl _ _).alloc (Nat.le_refl _) (.cells #[.pointer (some ⟨d, 0, none⟩)] 31)) (by have := Blk.new (W3.alloc (.cells #[.int .i64 0] 3)) 31 #[.pointer (some ⟨d, 0, none⟩)]; rwa [World.size_alloc] at this) (by simp [blkT])).swap
  have hsz4 : ((W3.alloc (.cells #[.int .i64 0] 3)).alloc (.cells #[.pointer (some ⟨d, 0, none⟩)] 31)).heap.size = W3.heap.size + 2 := by simp
  generalize (W3.alloc (.cells #[.int .i64 0] 3)).alloc (.cells #[.pointer (some ⟨d, 0, none⟩)] 31) = W4 at *
  have hle : W1.heap.size ≤ W4.heap.size := hR3.on.size
  obtain ⟨fpa, hF⟩ := hR3
  clear hR
  have hI0 : AIn W1 W3.heap.size (W3.heap.size + 1) d (fpa ++ [W3.heap.size, W3.heap.size + 1]) [] W4 := ⟨fpa, hF, rfl, .inl rfl⟩
  refine (wpIn_wide (n := m)).1 ?_
  refine wpIn_range2_join rfl (enters_of Try.func42 (by kernel_rfl) rfl) (seq42 0 d (W3.heap.size + 1)) (fun _ => rfl)
    (AIn W1 W3.heap.size (W3.heap.size + 1) d) (fun _ _ => False)
    (fun fp => ownFrom_of fun x W W' kk ⟨fpa, h1, h2⟩ => ⟨fpa, h1.ck kk hle, h2⟩) (ownFrom_of fun _ _ _ _ h => h) (fun fp pre W ⟨fpa, h1, h2⟩ => ⟨(h1.tg (blkT (W3.heap.size + 1) 31 #[.pointer (some ⟨d, 0, none⟩)]) (by simp)).1, fpa, _, _, h1.ar⟩) (fpa ++ [W3.heap.size, W3.heap.size + 1]) (fun k hk => (hF.lt k (by simpa [allB, blkT] using hk)).1) hI0
    (fun T N fp pre y a' W => AxC (updC T 92 93 7 8) (fun pre y => nxt aw3 (lastId pre) = some (y.id, y.ls)) N pre y a' W) (fun N fp pre y a' => own_axC) ?assign 0 (fun _ _ h => h) ?body
    (fun W => ∃ fpa, RunF W1 [] fpa [blkT W3.heap.size 3 #[.int .i64 1], blkT (W3.heap.size + 1) 31 #[.pointer (some ⟨d, 0, none⟩)]] d aw3 4 W) ?done ?hE (fun _ _ h => h.elim) ?fin
  case assign =>
    intro l2 m2 fp pre y V W2 K hI0 hI hO01 hX hK
    obtain ⟨fp2, al2, last2, hA2, hn2, hown⟩ := hX
    obtain ⟨fpa2, hF2, _⟩ := hI0
    obtain ⟨_, rfl, rfl⟩ := hF2.ar.uniq hA2
    have hfin := hK _ W2 (Only.refl [] _) hI ⟨rfl, hn2, hown⟩
    clear hK
    simp only [updC, List.setIfInBounds_toArray, List.set_cons_succ, List.set_cons_zero] at hfin
    replace hfin := Lib.hid hfin
    simp only [encC]
    gi_wp2
    exact hfin.out
  case body =>
    rintro l2 m2 fp pre ⟨yid, yls, yA, yc⟩ a' V W2 ⟨fpa2, hF2, rfl, hpre⟩ hO01 ⟨fpa3, hF3, hfp3, _⟩ ⟨rfl, hnx, hown⟩
    dsimp only at hnx hown
    obtain rfl : pre = [] := by
      rcases hpre with h | ⟨h1, h2⟩
      · exact h
      · rw [h2] at hnx
        have h3 : nxt aw3 (4 : Nat) = none := by decide +kernel
        rw [h3] at hnx
        cases hnx
    obtain ⟨rfl, rfl⟩ : 4 = yid ∧ [2] = yls := by
      have h1 : nxt aw3 (lastId []) = some (4, [2]) := by decide +kernel
      rw [h1] at hnx
      injection hnx with hnx
      injection hnx with h2 h3
      exact ⟨h2, h3⟩
    simp only [updC, List.setIfInBounds_toArray, List.set_cons_succ, List.set_cons_zero]
    have hfe : fpa3 = fpa2 := List.append_cancel_right hfp3.symm
    subst hfe
    have hR := hF3.rebase hO01
    have hrd := Reads.of_own hown
    have hlr := lit_reads W2 30 (lits [2])
    replace hown := Lib.hid hown
    gi_wp2_with (refine ⟨trivial, no_depth, ?_⟩; gi_at_call 26; refine ((callsIn_wide.2 (equal_lits _ _ _ _ _ [2] _ _ _ (hrd.alloc (Nat.le_refl _) _) hlr (by decide))).inRound l2).mono ?_; rintro r w9 ⟨rfl, hB9⟩; have hR9 := (hR.lit (.cells #[.int .i64 2] 30)).new hB9; have hb9 : Blk w9 W3.heap.size 3 #[.int .i64 0] := hR9.thing (t := blkT W3.heap.size 3 #[.int .i64 0]) (by simp); have b9 := hb9.cell 0; have z9 := hb9.frozen 0; simp only [List.getElem?_toArray, List.getElem?_cons_zero] at b9)
    have hR10 := hR9.change (t' := blkT W3.heap.size 3 #[.int .i64 1]) ((Only.refl [W3.heap.size] w9).setCell (p := ⟨W3.heap.size, 0, none⟩) (.inl (by simp)) (.int .i64 1)) (by have := hb9.set_ 0 (.int .i64 1); simpa [blkT] using this) (by simp [blkT])
    obtain ⟨hO, fpa', hF', hm⟩ := round_end hF2 hR10
    have hb2 : ∀ (f : List Nat) (c1 c2 : Array Value), allB f [blkT W3.heap.size 3 c1, blkT (W3.heap.size + 1) 31 c2] = f ++ [W3.heap.size, W3.heap.size + 1] := fun f c1 c2 => by simp [allB, blkT]
    rw [hb2] at hO
    simp only [hb2] at hm
    exact ⟨hO, _, ⟨fpa', hF', rfl, .inr ⟨rfl, rfl⟩⟩, hm⟩
  case done =>
    rintro fp xs W2 ⟨fp2, al2, last2, hA2, hn2⟩ ⟨fpa2, hF2, rfl, hpre⟩
    obtain ⟨_, rfl, rfl⟩ := hF2.ar.uniq hA2
    rcases hpre with rfl | ⟨h1, h2⟩
    · exact absurd hn2 (by decide +kernel)
    · rw [h1] at hF2
      exact ⟨fpa2, hF2⟩
  case hE =>
    rintro xs W l o o' h1 h2 h3 ⟨fp2, al2, last2, hA2, hn2⟩
    exact ⟨fp2, al2, last2, hA2.ck (CellsKept.putObj (B := 0) W _ h2 h3 (Nat.zero_le _)), hn2⟩
  case fin =>
    rintro D W2 hD ⟨fpa2, hF2⟩ hDm
    have hR := hF2.rebase (Only.refl [] W2)
    have hDn : D ∉ allB fpa2 [blkT W3.heap.size 3 #[.int .i64 1], blkT (W3.heap.size + 1) 31 #[.pointer (some ⟨d, 0, none⟩)]] := fun hm => by
      have := hF2.cells D _ hm hDm
      cases this
    have hb1 : Blk W2 W3.heap.size 3 #[.int .i64 1] := hR.thing (t := blkT W3.heap.size 3 #[.int .i64 1]) (by simp)
    have b1 := hb1.cell 0
    simp only [List.getElem?_toArray, List.getElem?_cons_zero] at b1
    refine hcont.out _ _ ?_
    clear hcont
    have tt0 := Lib.hid trivial
    go_upto_region 18 with (first
      | (go_at_call 15; clear tt0; refine (run_del (al' := aw3) hR 1 (by omega) (e := 30) (by decide +kernel) (by decide +kernel)).mono ?_; rintro e W5 ⟨rfl, hR2⟩; clear hR; have hR := hR2; clear hR2)
      | (go_at_call 14; refine (run_add (al' := aw4) (last' := 5) hR (nil_reads _) (Nat.le_refl _) (by decide) 5 (e := 0) (by decide +kernel) (by decide +kernel) (by decide +kernel)).mono ?_; rintro e W6 ⟨rfl, hR2⟩; clear hR; have hR := hR2; clear hR2)
      | (go_at_call 18; refine (run_len hR 5 (by omega) (n := 0) (e := 0) (by decide +kernel) (by decide +kernel)).mono ?_; rintro e W7 ⟨rfl, hR2⟩; clear hR; have hR := hR2; clear hR2))
    go_wp2_with (go_at_call 21; refine (run_has hR 5 (by omega) (b := true) (by decide +kernel)).mono ?_; rintro e W8 ⟨rfl, hR2⟩; clear hR; have hR := hR2; clear hR2; obtain ⟨hOz, fpz, hFz, _⟩ := round_end hF2 hR; have hB1 := hFz.on.below (Nat.le_refl _) (by simp); have hbz := hb0.below hB1 (by omega); have bz := hbz.cell 0; have zz := hbz.frozen 0; simp only [List.getElem?_toArray, List.getElem?_cons_zero] at bz)
    have hDz := (hOz.block D (Array.getElem?_eq_some_iff.1 hDm).1 hDn).trans hDm
    have hWz := hbz.set_ 0 (.bool true)
    simp only [List.setIfInBounds_toArray, List.set_cons_zero] at hWz
    have hne : D ≠ w.heap.size := by omega
    have hDz2 : (W8.setCell ⟨w.heap.size, 0, none⟩ (.bool true)).heap[D]? = some (.deferred (some [])) := (Below.heap_setCell _ _ _ _ hne).trans hDz
    have hBz := (hA.trans (hB1.mono (by omega))).setCell (p := ⟨w.heap.size, 0, none⟩) (Nat.le_refl _) (.bool true)
    have hk := CellsKept.putObj (B := w.heap.size) _ (.deferred none) hDz2 rfl (by omega)
    refine leaves_one hDz2 ⟨.bool true, ?_, rfl, below_ck hBz (Nat.le_refl _) hk (Nat.le_refl _)⟩
    have hWk := (hWz.ck hk).cell 0
    simp only [List.getElem?_toArray, List.getElem?_cons_zero] at hWk
    simp [results, Try.results12, go_sem, hWk]
theorem awake_ok (w : World) : Calls Try.prog 12 #[] w fun e w' => e = .returned (.bool true) ∧ Below w.heap.size w w' := callsIn_wide.1 (awake_in 3 w)
end Go.Proofs.Ytlcfgpkokaiogaa
