/- Lemmas for salvor/salvorlaw29.TreeSmall (part 2); no condition. -/
import Derived.Test.YtnldbplphgfpeaaGreatProg
import Derived.Sort.CutIn
import Derived.Test.YtnldbplphgfpeaaGreatP01
namespace Go.Proofs.YtnldbplphgfpeaaGreat
open Go Go.RowKit Go.Shelf
set_option linter.unusedVariables false
set_option linter.unusedSimpArgs false
set_option maxHeartbeats 4000000
theorem wpIn_loop_j {P : Program} {F : Fence} {n : Nat} {Q : Exit → Act → World → Prop} {a : Act} {w : World} {c : Code} (I : Act → World → Prop) (μ : Act → World → Nat) (h0 : I a w)
  (round : ∀ a w, I a w → ∀ J : Act → World → Prop, (∀ a' w', I a' w' → μ a' w' < μ a w → J a' w') → c.wpIn F n P (Exit.then J Q) a w) : (Code.loop c).wpIn F n P Q a w :=
 wpIn_loop I μ h0 fun a w h => round a w h _ (fun _ _ h1 h2 => ⟨h1, h2⟩)
theorem marks_keep {B C : Nat} {W0 W W' : World} {ds : List Deferred} (h0 : Marks B W0 ds) (h : Marks B W ds) (k : CellsKept C W W') (hC : W0.heap.size ≤ C) : Marks B W' ds :=
 h.keep fun D _ hm => by
  obtain ⟨h1, h2, h3⟩ := h.lt hm
  rw [h3]
  exact k.same D _ h3 (.inr (by have := (h0.lt hm).1; omega))
structure Mine {α : Type} (ty l b0 B : Nat) (J : List Nat → List α → World → Prop) (ds : List Deferred) (fp : List Nat) (pre : List α) (W : World) : Prop where
 j : J fp pre W
 bx : Blk W b0 ty #[.func (.yield l) #[] #[]]
 nb : b0 ∉ fp
 mks : Marks B W ds
 nm : ∀ D, ({ target := .collected D, args := #[] } : Deferred) ∈ ds → D ∉ fp
section
variable {α : Type} {ty l b0 B : Nat} {J : List Nat → List α → World → Prop} {ds : List Deferred} {fp : List Nat} {pre : List α} {W W' W0 : World}
theorem Mine.own (hJ : ∀ fp, OwnFrom B (J fp)) (h0 : Marks B W0 ds) (hB : B ≤ W0.heap.size) (fp : List Nat) : OwnFrom W0.heap.size (Mine ty l b0 B J ds fp) := fun s A A' row hs hg hr =>
 ⟨hJ fp s A A' row hs.j hg (fun r e => ⟨by have := (hr r e).1; omega, (hr r e).2⟩), hs.bx.ck (cellsKept_of_grown hg hr), hs.nb, marks_keep h0 hs.mks (cellsKept_of_grown hg hr) (Nat.le_refl _), hs.nm⟩
theorem Mine.new (hJ : ∀ fp, OwnFrom B (J fp)) (h : Mine ty l b0 B J ds fp pre W) (hb : Below W.heap.size W W') : Mine ty l b0 B J ds fp pre W' :=
 ⟨hJ fp pre W W' none h.j ⟨hb.os, hb.tape, hb.output, hb.size, fun k hk _ => hb.block k hk⟩ (by simp), h.bx.below hb h.bx.lt, h.nb, h.mks.keep (fun D _ hm => hb.block D (h.mks.lt hm).1), h.nm⟩
theorem Mine.step {fp' : List Nat} {pre' : List α} (h : Mine ty l b0 B J ds fp pre W) (hj : J fp' pre' W') (ho : Only fp W W') (hf : ∀ k, k ∈ fp' → k ∈ fp ∨ W.heap.size ≤ k) : Mine ty l b0 B J ds fp' pre' W' :=
 ⟨hj, h.bx.only ho h.nb, fun hm => by
  rcases hf _ hm with h1 | h1
  ·exact h.nb h1
  ·have := h.bx.lt; omega, h.mks.keep (fun D _ hm => ho.block D (h.mks.lt hm).1 (h.nm D hm)), fun D hm hk => by
  rcases hf _ hk with h1 | h1
  ·exact h.nm D hm h1
  ·have := (h.mks.lt hm).1; omega⟩
end
def aggX (x : Ex Loc) : Value := .agg (x.cells eT).toArray
theorem exprs_ok (h : Hd) (l : Loc) (s : List (Ex Loc)) (w : World) : Calls Tryz.prog 80 #[.agg #[.int .u8 h.kd, .int .u8 h.op, .int .u32 h.va, .int .i64 h.wd, .string h.nm, .slice l.A s.length l.c]] w fun e w' =>
  e = .returned (.func (.func 107) #[] #[.pointer (some ⟨w.heap.size, 0, none⟩)]) ∧ w.alloc (.cells #[.int .u8 h.kd, .int .u8 h.op, .int .u32 h.va, .int .i64 h.wd, .string h.nm, .slice l.A s.length l.c] 30) = w' := by
 go_enter Tryz.func80, Tryz.ntmps80
 go_wp2
 go_ret
 exact ⟨rfl, rfl⟩
def ERound (l Bd b0 B : Nat) (hd : Hd) (lc : Loc) (subs : List (Ex Loc)) (n : Nat) (J : List Nat → List (Ex Loc) → World → Prop) (a : Act) (W : World) : Prop :=
 ∃ (k : Nat) (u4 u5 u14 u15 u16 u17 u18 u19 u20 u21 u22 u23 u24 : Value) (ds : List Deferred) (fp : List Nat) (pre : List (Ex Loc)), a = { tmps := #[.func (.yield l) #[] #[], .pointer (some ⟨Bd, 0, none⟩), .pointer (some ⟨b0, 0, none⟩), undef, u4, u5, .func (.yield l) #[] #[], .agg #[.int .u8 hd.kd, .int .u8 hd.op, .int .u32 hd.va, .int .i64 hd.wd, .string hd.nm, .slice lc.A n lc.c], .bool true, .bool false, .pointer (some ⟨Bd, 5, none⟩), .slice lc.A n lc.c, .int .i64 (n : Int), .int .i64 (k : Int), u14, u15, u16, u17, u18, u19, u20, u21, u22, u23, u24], defers := ds } ∧ k ≤ n ∧ pre.length = 1 + szs (subs.take k) ∧ Mine 134 l b0 B J ds fp pre W
attribute [local go_sem] Oper.semAt_some
set_option maxRecDepth 100000 in
theorem seqE : ∀ (e : Ex Loc) (Bd : Nat), Seq3 Tryz.prog 107 #[.pointer (some ⟨Bd, 0, none⟩)] (fun x => #[aggX x]) (fun _ W => Blk W Bd 30 (e.cells eT).toArray ∧ e.ok eT W)
  (fun pre _ x => e.nodes[pre.length]? = some x) (fun xs _ => xs.length = e.sz) := by
 intro e
 induction e using Ex.ind with
 | h hd lc subs ih =>
 intro Bd m l J Jx W fp hJ hJx hRd hfp hY h0
 obtain ⟨hb, hok⟩ := hRd _ _ _ h0
 have hbl := hb.lt
 refine callsIn_of_wp_marks Tryz.func107 rfl trivial ?_ rfl
 simp only [Tryz.ntmps107, List.size_toArray, List.length_cons, List.length_nil, Nat.reduceAdd, Nat.reduceSub, Array.replicate_succ, Array.replicate_zero, List.push_toArray, List.append_toArray, List.nil_append, List.cons_append]
 have q0 := hb.cell 0
 have q1 := hb.cell 1
 have q2 := hb.cell 2
 have q3 := hb.cell 3
 have q4 := hb.cell 4
 have q5 := hb.cell 5
 simp only [Ex.cells, eT, List.getElem?_toArray, List.getElem?_cons_zero, List.getElem?_cons_succ] at q0 q1 q2 q3 q4 q5
 have hB1 := (Below.refl _ W).alloc (Nat.le_refl _) (.cells #[.func (.yield l) #[] #[]] 134)
 have hj1 := (hJ fp).alloc (.cells #[.func (.yield l) #[] #[]] 134) h0
 have hX0 : (Ex.mk hd lc subs).nodes[([] : List (Ex Loc)).length]? = some (Ex.mk hd lc subs) := rfl
 obtain ⟨fn, tmps, assign, body, hy, hR⟩ := hY (m - 1) fp [] (Ex.mk hd lc subs) _ hj1 hX0
 simp only [aggX, Ex.cells, eT] at hy
 replace hX0 := Lib.hid hX0
 have hM1 : Mine (α := Ex Loc) 134 l W.heap.size W.heap.size J [] fp [] (W.alloc (.cells #[.func (.yield l) #[] #[]] 134)) := ⟨hj1, Blk.new _ _ _, fun hm => by have := hfp _ _ _ h0 _ hm; omega, trivial, by simp⟩
 gi_wp2
 refine ⟨no_depth, ?_⟩
 refine hR.mono ?_
 clear hR hy
 rintro e W3 (⟨rfl, ⟨fp', hJ3, hf3⟩, ho3⟩ | ⟨rfl, hJx3, _⟩)
 rotate_left
 ·gi_wp2
  refine ⟨_, results_none rfl _ _ _, ⟨_, rfl⟩, .inr ⟨_, hJx3⟩⟩
 have hM3 := hM1.step hJ3 ho3 hf3
 obtain ⟨hb3, hok3⟩ := hRd _ _ _ hJ3
 have p5 := hb3.cell 5
 simp only [Ex.cells, eT, List.getElem?_toArray, List.getElem?_cons_zero, List.getElem?_cons_succ] at p5
 have hs3 : W.heap.size < W3.heap.size := by have := ho3.size; simp at this; omega
 clear hM1 hj1 hB1 q0 q1 q2 q3 q4 q5 hb hok h0 hX0 ho3 hf3
 gi_wp2
 obtain ⟨b0, hb0⟩ : ∃ b0, W.heap.size = b0 := ⟨_, rfl⟩
 obtain ⟨n, hn⟩ : ∃ n, subs.length = n := ⟨_, rfl⟩
 rw [hb0, hn]
 rw [hn] at p5
 replace hb0 := Lib.hid hb0
 have hn63 : (n : Int) ≤ 9223372036854775807 := by have h1 := hok3.1.2.1; have h2 := hok3.1.2.2.1; omega
 have hn' := Lib.hid hn
 clear hn
 refine wpIn_loop_j (ERound l Bd b0 W.heap.size hd lc subs n J) (fun a _ => (n - (intOf (a.tmps.getD 13 undef)).toNat)) ⟨0, _, _, _, _, _, _, _, _, _, _, _, _, _, [], fp', [Ex.mk hd lc subs], rfl, Nat.zero_le _, rfl, by rw [← hb0.out]; exact hM3⟩ ?_
 clear hM3 hb3 hok3 p5 hs3 hJ3
 clear W3
 rintro a W1 ⟨k, u4, u5, u14, u15, u16, u17, u18, u19, u20, u21, u22, u23, u24, ds, fp1, pre, rfl, hk, hpre, hM⟩ JJ hJJ
 replace hJJ := Lib.hid hJJ
 obtain ⟨hb1, hok1⟩ := hRd _ _ _ hM.j
 by_cases hlt : k < n
 ·have hx : subs[k]? = some (subs[k]'(by have := hn'.out; omega)) := List.getElem?_eq_getElem (by have := hn'.out; omega)
  generalize subs[k]'(by have := hn'.out; omega) = x at hx
  obtain ⟨ad, hA, hblk, _, hxok, hcells⟩ := Lex.ok.at (E := eT) (w := W1) (l := lc) hok1 hx
  obtain ⟨⟨xk, xo, xv, xw, xn⟩, ⟨xA, xc⟩, xs⟩ := x
  obtain ⟨c0, c1, c2, c3, c4, c5⟩ := CellsAt.c6 hcells
  simp only [eT] at c0 c1 c2 c3 c4 c5
  obtain ⟨lA, lcc⟩ := lc
  dsimp only at hA
  subst hA
  have k0 : 0 ≤ (k : Int) := by omega
  have k1 : (k : Int) < (n : Int) := by omega
  have hab := cell_lt c0
  replace hx := Lib.hid hx
  replace hpre := Lib.hid hpre
  replace hblk := Lib.hid hblk
  gi_wp2_with (refine ⟨trivial, no_depth, ?_⟩; gi_at_call 80; refine (callsIn_wide.2 (exprs_ok ⟨xk, xo, xv, xw, xn⟩ ⟨xA, xc⟩ xs _)).mono ?_; rintro e w' ⟨rfl, rfl⟩)
  have hB2 : Below W1.heap.size W1 ((W1.alloc (.cells #[.int .u8 xk, .int .u8 xo, .int .u32 xv, .int .i64 xw, .string xn, .slice xA xs.length xc] 30)).alloc (.cells #[.int .u8 xk, .int .u8 xo, .int .u32 xv, .int .i64 xw, .string xn, .slice xA xs.length xc] 30)) :=
   ((Below.refl _ _).alloc (Nat.le_refl _) _).alloc (by simp) _
  have hM2 := hM.new hJ hB2
  have hbx := Blk.new (W1.alloc (.cells #[.int .u8 xk, .int .u8 xo, .int .u32 xv, .int .i64 xw, .string xn, .slice xA xs.length xc] 30)) 30 #[.int .u8 xk, .int .u8 xo, .int .u32 xv, .int .i64 xw, .string xn, .slice xA xs.length xc]
  rw [World.size_alloc] at hbx
  have hnx : W1.heap.size + 1 ∉ fp1 := fun hm => by have := hfp _ _ _ hM.j _ hm; omega
  have hsz2 : W.heap.size ≤ W1.heap.size := by have := hM.bx.lt; have := hb0.out; omega
  generalize (W1.alloc (.cells #[.int .u8 xk, .int .u8 xo, .int .u32 xv, .int .i64 xw, .string xn, .slice xA xs.length xc] 30)).alloc (.cells #[.int .u8 xk, .int .u8 xo, .int .u32 xv, .int .i64 xw, .string xn, .slice xA xs.length xc] 30) = W2 at *
  generalize hBx : W1.heap.size + 1 = Bx at *
  have hsW2 : W.heap.size ≤ W2.heap.size := Nat.le_trans hsz2 hB2.size
  have hbxl := hbx.lt
  rename_i hcont
  replace hcont := Lib.hid hcont
  refine wpIn_range3 rfl (enters_of Tryz.func107 (by kernel_rfl) rfl) (ih (Ex.mk ⟨xk, xo, xv, xw, xn⟩ ⟨xA, xc⟩ xs) (List.mem_of_getElem? hx.out) Bx) (fun _ => rfl)
   (fun fp2 pre2 W' => Mine 134 l b0 W.heap.size J ds fp2 (pre ++ pre2) W' ∧ Blk W' Bx 30 #[.int .u8 xk, .int .u8 xo, .int .u32 xv, .int .i64 xw, .string xn, .slice xA xs.length xc] ∧ Bx ∉ fp2)
   (fun c pre2 W' => c = .ret ∧ Jx (pre ++ pre2) W' ∧ Marks W.heap.size W' ds)
   (fun fp2 s A A' row hs hg hr => ⟨Mine.own hJ hM2.mks hsW2 fp2 (pre ++ s) A A' row hs.1 hg hr, hs.2.1.ck (cellsKept_of_grown hg hr), hs.2.2⟩)
   (fun c s A A' row hs hg hr => ⟨hs.1, hJx (pre ++ s) A A' row hs.2.1 hg (fun r e => ⟨by have := (hr r e).1; omega, (hr r e).2⟩), marks_keep hM2.mks hs.2.2 (cellsKept_of_grown hg hr) (Nat.le_refl _)⟩)
   (fun fp2 pre2 W' h => ⟨h.2.1, oks_at (hRd _ _ _ h.1.j).2.2 hx.out⟩) (fun fp2 pre2 W' h => hfp _ _ _ h.1.j) fp1 ⟨by rw [List.append_nil]; exact hM2, hbx, hnx⟩
   (AxB 30 (fun y => (y.cells eT).toArray) aggX 19 5 (fun pre2 y => (Ex.mk ⟨xk, xo, xv, xw, xn⟩ ⟨xA, xc⟩ xs).nodes[pre2.length]? = some y)) own_axB ?assign ?body ?done ?hE ?stop
  case assign =>
   intro l2 m2 fp2 pre2 y W3 K hI hX hK
   replace hK := Lib.hid hK
   obtain ⟨⟨yk, yo, yv, yw, yn⟩, ⟨yA, yc⟩, ys⟩ := y
   simp only [aggX, Ex.cells, eT]
   gi_wp2
   have hnew := Blk.new W3 30 #[.int .u8 yk, .int .u8 yo, .int .u32 yv, .int .i64 yw, .string yn, .slice yA ys.length yc]
   have hB3 := (Below.refl _ W3).alloc (Nat.le_refl _) (.cells #[.int .u8 yk, .int .u8 yo, .int .u32 yv, .int .i64 yw, .string yn, .slice yA ys.length yc] 30)
   have hfin := fun a' h => hK.out a' _ (only_of_below [] hB3) ⟨hI.1.new hJ hB3, hI.2.1.below hB3 hI.2.1.lt, hI.2.2⟩ ⟨_, h, hnew, hX⟩
   clear hnew hB3
   generalize W3.heap.size = N at hfin ⊢
   refine hfin _ ?_
   simp only [updB, aggX, Ex.cells, eT, List.setIfInBounds_toArray, List.set_cons_succ, List.set_cons_zero]
  case body =>
   rintro l2 m2 fp2 pre2 y a' W3 hI ⟨N, rfl, hN, hX⟩
   have hXo : (Ex.mk hd ⟨some ad, lcc⟩ subs).nodes[(pre ++ pre2).length]? = some y := by
    rw [List.length_append, hpre.out, show 1 + szs (subs.take k) + pre2.length = (szs (subs.take k) + pre2.length) + 1 by omega]
    exact nodess_at hx.out hX
   obtain ⟨⟨yk, yo, yv, yw, yn⟩, ⟨yA, yc⟩, ys⟩ := y
   obtain ⟨fn, tmps, assign, body, hy, hR⟩ := hY (m2 - 1) fp2 (pre ++ pre2) _ W3 hI.1.j hXo
   have f0 := hI.1.bx.cell 0
   have g0 := hN.cell 0
   have g1 := hN.cell 1
   have g2 := hN.cell 2
   have g3 := hN.cell 3
   have g4 := hN.cell 4
   have g5 := hN.cell 5
   simp only [Ex.cells, eT, List.getElem?_toArray, List.getElem?_cons_zero, List.getElem?_cons_succ] at f0 g0 g1 g2 g3 g4 g5
   have hb0l := hI.1.bx.lt
   have hNl := hN.lt
   simp only [aggX, Ex.cells, eT] at hy
   simp only [updB, aggX, Ex.cells, eT, List.setIfInBounds_toArray, List.set_cons_succ, List.set_cons_zero]
   replace hXo := Lib.hid hXo
   replace hX := Lib.hid hX
   gi_wp2
   refine ⟨no_depth, ?_⟩
   refine RoundIn.mono (F := Fence.wide.inRound l2) hR ?_
   rintro e W4 (⟨rfl, ⟨fp', hJ3, hf3⟩, ho3⟩ | ⟨rfl, hJx3, fx, hfx, ho3⟩)
   ·gi_wp2
    have hM4 := hI.1.step hJ3 ho3 hf3
    refine ⟨ho3, fp', ⟨by rw [← List.append_assoc]; exact hM4, hI.2.1.only ho3 hI.2.2, fun hm => ?_⟩, hf3⟩
    rcases hf3 _ hm with h | h
    ·exact hI.2.2 h
    ·have := hI.2.1.lt; omega
   ·gi_wp2
    refine ⟨⟨fx, fun k hk => by have := hfx k hk; omega, ho3⟩, rfl, by rw [← List.append_assoc]; exact hJx3, hI.1.mks.keep fun D hD hm => ho3.block D (hI.1.mks.lt hm).1 fun hk => ?_⟩
    rcases List.mem_append.1 hk with h | h
    ·have := hfx _ h; omega
    ·exact hI.1.nm D hm h
  case done =>
   rintro Dd fp2 pre2 W3 hDd hlen hI hDn hDm
   have hM4 : Mine 134 l b0 W.heap.size J ({ target := .collected Dd, args := #[] } :: ds) fp2 (pre ++ pre2) W3 :=
    ⟨hI.1.j, hI.1.bx, hI.1.nb, hI.1.mks.push (by omega) hDm (fun D' hm => by have := (hM2.mks.lt hm).1; omega), fun D hm hk => by
     rcases List.mem_cons.1 hm with h | h
     ·cases h
      exact hDn hk
     ·exact hI.1.nm D h hk⟩
   have hpre4 : (pre ++ pre2).length = 1 + szs (subs.take (k + 1)) := by
    rw [List.length_append, hpre.out, szs_take_succ hx.out, hlen]; omega
   replace hpre4 := Lib.hid hpre4
   replace hlen := Lib.hid hlen
   refine hcont.out _ _ ?_
   dsimp only
   gi_wp2
   refine hJJ.out _ _ ⟨k + 1, _, _, _, _, _, _, _, _, _, _, _, _, _, _, fp2, pre ++ pre2, rfl, by omega, hpre4.out, hM4⟩ ?_
   simp [intOf]; omega
  case hE => intro _ _ _ _ _ _ _ _ h; exact h
  case stop =>
   rintro Dd c pre2 W3 hDd ⟨rfl, hJx2, hmk⟩ hDm
   dsimp only
   gi_wp2
   refine leaves_own hJx (hmk.push (by omega) hDm (fun D' hm => by have := (hM2.mks.lt hm).1; omega)) hJx2 fun W4 hJ4 => ?_
   exact ⟨_, results_none rfl _ _ _, ⟨_, rfl⟩, .inr ⟨_, hJ4⟩⟩
 ·have he : pre.length = (Ex.mk hd lc subs).sz := by
   have hkn : k = n := by omega
   rw [hpre, hkn, ← hn'.out, List.take_length]; rfl
  replace he := Lib.hid he
  replace hpre := Lib.hid hpre
  obtain rfl : k = n := by omega
  gi_wp2
  refine leaves_own (hJ fp1) hM.mks hM.j fun W4 hJ4 => ?_
  exact ⟨_, results_none rfl _ _ _, ⟨_, rfl⟩, .inl ⟨fp1, pre, he.out, hJ4⟩⟩
theorem stmts_ok (A : Option Addr) (n c : Nat) (w : World) : Calls Tryz.prog 89 #[.slice A n c] w fun e w' =>
  e = .returned (.func (.func 112) #[] #[.pointer (some ⟨w.heap.size, 0, none⟩)]) ∧ w.alloc (.cells #[.slice A n c] 33) = w' := by
 go_enter Tryz.func89, Tryz.ntmps89
 go_wp2
 go_ret
 exact ⟨rfl, rfl⟩
def aggS (x : St Loc) : Value := .agg (x.cells eT).toArray
theorem nodesS_at {α : Type} {l : List (St α)} {k i : Nat} {s y : St α} (hs : l[k]? = some s) (hy : s.nodes[i]? = some y) : (nodesS l)[(nodesS (l.take k)).length + i]? = some y := by
 rw [nodesS_split hs, List.getElem?_append_right (by omega), Nat.add_sub_cancel_left, List.getElem?_append_left (List.getElem?_eq_some_iff.1 hy).1]
 exact hy
theorem St.nodes_0 {α : Type} (s : St α) : s.nodes[0]? = some s := by rw [St.nodes_eq]; rfl
theorem St.nodes_th {α : Type} {s y : St α} {i : Nat} (h : (nodesS s.th)[i]? = some y) : s.nodes[1 + i]? = some y := by
 rw [St.nodes_eq, Nat.add_comm, List.getElem?_cons_succ, List.getElem?_append_left (List.getElem?_eq_some_iff.1 h).1]; exact h
theorem St.nodes_el {α : Type} {s y : St α} {i : Nat} (h : (nodesS s.el)[i]? = some y) : s.nodes[1 + (nodesS s.th).length + i]? = some y := by
 rw [St.nodes_eq, show 1 + (nodesS s.th).length + i = ((nodesS s.th).length + i) + 1 by omega, List.getElem?_cons_succ, List.getElem?_append_right (by omega), Nat.add_sub_cancel_left]; exact h
def SRound (l Bd b0 B n : Nat) (lc : Loc) (ls : List (St Loc)) (J : List Nat → List (St Loc) → World → Prop) (a : Act) (W : World) : Prop :=
 ∃ (k : Nat) (u0 u3 u4 u5 u6 u7 u11 u12 u13 u14 u15 u16 u17 u18 u19 u20 u21 u22 u23 u24 u25 u26 u27 u28 u29 u30 u31 u32 u33 u34 : Value) (ds : List Deferred) (fp : List Nat) (pre : List (St Loc)), a = { tmps := #[u0, .pointer (some ⟨Bd, 0, none⟩), .pointer (some ⟨b0, 0, none⟩), u3, u4, u5, u6, u7, .slice lc.A n lc.c, .int .i64 (n : Int), .int .i64 (k : Int), u11, u12, u13, u14, u15, u16, u17, u18, u19, u20, u21, u22, u23, u24, u25, u26, u27, u28, u29, u30, u31, u32, u33, u34], defers := ds } ∧ k ≤ n ∧ pre.length = (nodesS (ls.take k)).length ∧ Mine 137 l b0 B J ds fp pre W
def partN (s : St Loc) (j : Nat) : Nat := if j = 0 then 1 else if j = 1 then 1 + (nodesS s.th).length else 1 + (nodesS s.th).length + (nodesS s.el).length
def PRound (l Bd b0 B n k : Nat) (lc : Loc) (ls : List (St Loc)) (s : St Loc) (J : List Nat → List (St Loc) → World → Prop) (a : Act) (W : World) : Prop :=
 ∃ (j : Nat) (u0 u3 u4 u5 u6 u7 u11 u12 u13 u14 u15 u16 u17 u18 u19 u20 u21 u24 u25 u26 u27 u28 u29 u30 u31 u32 u33 u34 : Value) (ds : List Deferred) (fp : List Nat) (pre : List (St Loc)), a = { tmps := #[u0, .pointer (some ⟨Bd, 0, none⟩), .pointer (some ⟨b0, 0, none⟩), u3, u4, u5, u6, u7, .slice lc.A n lc.c, .int .i64 (n : Int), .int .i64 (k : Int), u11, u12, u13, u14, u15, u16, u17, u18, u19, u20, u21, .agg #[.slice s.lt.A s.th.length s.lt.c, .slice s.le.A s.el.length s.le.c], .int .i64 (j : Int), u24, u25, u26, u27, u28, u29, u30, u31, u32, u33, u34], defers := ds } ∧ j ≤ 2 ∧ pre.length = (nodesS (ls.take k)).length + partN s j ∧ Mine 137 l b0 B J ds fp pre W
set_option maxRecDepth 100000 in
theorem seqS : ∀ (ls : List (St Loc)) (lc : Loc) (Bd : Nat), Seq3 Tryz.prog 112 #[.pointer (some ⟨Bd, 0, none⟩)] (fun x => #[aggS x]) (fun _ W => Blk W Bd 33 #[.slice lc.A ls.length lc.c] ∧ Lst.ok eT W lc ls)
  (fun pre _ x => (nodesS ls)[pre.length]? = some x) (fun xs _ => xs.length = (nodesS ls).length) := by
 intro ls
 induction ls using St.list with
 | h ls ih =>
 intro lc Bd m l J Jx W fp hJ hJx hRd hfp hY h0
 obtain ⟨hb, hok⟩ := hRd _ _ _ h0
 have hbl := hb.lt
 refine callsIn_of_wp_marks Tryz.func112 rfl trivial ?_ rfl
 simp only [Tryz.ntmps112, List.size_toArray, List.length_cons, List.length_nil, Nat.reduceAdd, Nat.reduceSub, Array.replicate_succ, Array.replicate_zero, List.push_toArray, List.append_toArray, List.nil_append, List.cons_append]
 have q0 := hb.cell 0
 simp only [List.getElem?_toArray, List.getElem?_cons_zero, List.getElem?_cons_succ] at q0
 have hj1 := (hJ fp).alloc (.cells #[.func (.yield l) #[] #[]] 137) h0
 have hM1 : Mine (α := St Loc) 137 l W.heap.size W.heap.size J [] fp [] (W.alloc (.cells #[.func (.yield l) #[] #[]] 137)) := ⟨hj1, Blk.new _ _ _, fun hm => by have := hfp _ _ _ h0 _ hm; omega, trivial, by simp⟩
 have hn63 : (ls.length : Int) ≤ 9223372036854775807 := by have h1 := hok.1.2.1; have h2 := hok.1.2.2.1; omega
 gi_wp2
 obtain ⟨b0, hb0⟩ : ∃ b0, W.heap.size = b0 := ⟨_, rfl⟩
 obtain ⟨n, hn⟩ : ∃ n, ls.length = n := ⟨_, rfl⟩
 rw [hn] at hn63
 rw [hb0, hn]
 replace hb0 := Lib.hid hb0
 have hn' := Lib.hid hn
 clear hn
 refine wpIn_loop_j (SRound l Bd b0 W.heap.size n lc ls J) (fun a _ => (n - (intOf (a.tmps.getD 10 undef)).toNat)) ⟨0, _, _, _, _, _, _, _, _, _, _, _, _, _, _, _, _, _, _, _, _, _, _, _, _, _, _, _, _, _, _, [], fp, [], rfl, Nat.zero_le _, rfl, by rw [← hb0.out]; exact hM1⟩ ?_
 clear hM1 hb hok q0 hj1
 rintro a W1 ⟨k, u0, u3, u4, u5, u6, u7, u11, u12, u13, u14, u15, u16, u17, u18, u19, u20, u21, u22, u23, u24, u25, u26, u27, u28, u29, u30, u31, u32, u33, u34, ds, fp1, pre, rfl, hk, hpre, hM⟩ JJ hJJ
 replace hJJ := Lib.hid hJJ
 obtain ⟨hb1, hok1⟩ := hRd _ _ _ hM.j
 by_cases hlt : k < n
 ·have hx : ls[k]? = some (ls[k]'(by have := hn'.out; omega)) := List.getElem?_eq_getElem (by have := hn'.out; omega)
  generalize ls[k]'(by have := hn'.out; omega) = s at hx
  obtain ⟨ad, hA, hblk, _, hxok, hcells⟩ := Lst.ok.at (E := eT) (w := W1) (l := lc) hok1 hx
  obtain ⟨⟨xk, xn, xb⟩, ⟨aA, ac⟩, ⟨tA, tc⟩, ⟨eA, ec⟩, ex, th, el⟩ := s
  obtain ⟨c0, c1, c2, c3, c4, c5⟩ := CellsAt.c6 hcells
  simp only [eT] at c0 c1 c2 c3 c4 c5
  obtain ⟨lA, lcc⟩ := lc
  dsimp only at hA
  subst hA
  have k0 : 0 ≤ (k : Int) := by omega
  have k1 : (k : Int) < (n : Int) := by omega
  have hab := cell_lt c0
  have hb0l := hM.bx.lt
  have f0 := hM.bx.cell 0
  simp only [List.getElem?_toArray, List.getElem?_cons_zero] at f0
  have hXo : (nodesS ls)[pre.length]? = some (St.mk ⟨xk, xn, xb⟩ ⟨aA, ac⟩ ⟨tA, tc⟩ ⟨eA, ec⟩ ex th el) := by
   rw [hpre]; exact nodesS_at (i := 0) hx (St.nodes_0 _)
  have hB2 : Below W1.heap.size W1 (W1.alloc (.cells #[.int .u8 xk, .string xn, .slice aA ex.length ac, .int .i64 xb, .slice tA th.length tc, .slice eA el.length ec] 40)) := (Below.refl _ _).alloc (Nat.le_refl _) _
  have hM2 := hM.new hJ hB2
  have hbs := Blk.new W1 40 #[.int .u8 xk, .string xn, .slice aA ex.length ac, .int .i64 xb, .slice tA th.length tc, .slice eA el.length ec]
  obtain ⟨fn, tmps, assign, body, hy, hR⟩ := hY (m - 1) fp1 pre _ _ hM2.j hXo
  have hnx : W1.heap.size ∉ fp1 := fun hm => by have := hfp _ _ _ hM.j _ hm; omega
  simp only [aggS, St.cells, eT] at hy
  replace hx := Lib.hid hx
  replace hpre := Lib.hid hpre
  replace hblk := Lib.hid hblk
  replace hXo := Lib.hid hXo
  gi_wp2
  refine ⟨no_depth, ?_⟩
  refine hR.mono ?_
  clear hR hy
  rintro e W3 (⟨rfl, ⟨fp', hJ3, hf3⟩, ho3⟩ | ⟨rfl, hJx3, fx, hfx, ho3⟩)
  rotate_left
  ·gi_wp2
   refine leaves_own hJx (hM2.mks.keep fun D hD hm => ho3.block D (hM2.mks.lt hm).1 fun hk => ?_) hJx3 fun W4 hJ4 => ?_
   ·rcases List.mem_append.1 hk with h | h
    ·have := hfx _ h; omega
    ·exact hM2.nm D hm h
   exact ⟨_, results_none rfl _ _ _, ⟨_, rfl⟩, .inr ⟨_, hJ4⟩⟩
  have hM3 := hM2.step hJ3 ho3 hf3
  have hbs3 := hbs.only ho3 hnx
  have s4 := hbs3.cell 4
  have s5 := hbs3.cell 5
  simp only [List.getElem?_toArray, List.getElem?_cons_zero, List.getElem?_cons_succ] at s4 s5
  have hsl := hbs3.lt
  clear c0 c1 c2 c3 c4 c5 f0 hbs hbs3 hM hM2 hok1 hb1
  gi_wp2
  clear s4 s5 hsl
  have hpre3 : (pre ++ [St.mk ⟨xk, xn, xb⟩ ⟨aA, ac⟩ ⟨tA, tc⟩ ⟨eA, ec⟩ ex th el]).length = (nodesS (ls.take k)).length + partN (St.mk ⟨xk, xn, xb⟩ ⟨aA, ac⟩ ⟨tA, tc⟩ ⟨eA, ec⟩ ex th el) 0 := by
   rw [List.length_append, hpre.out]; rfl
  refine wpIn_loop_j (PRound l Bd b0 W.heap.size n k ⟨some ad, lcc⟩ ls (St.mk ⟨xk, xn, xb⟩ ⟨aA, ac⟩ ⟨tA, tc⟩ ⟨eA, ec⟩ ex th el) J) (fun a _ => (2 - (intOf (a.tmps.getD 23 undef)).toNat)) ⟨0, _, _, _, _, _, _, _, _, _, _, _, _, _, _, _, _, _, _, _, _, _, _, _, _, _, _, _, _, _, fp', _, rfl, by omega, hpre3, hM3⟩ ?_
  clear hM3 hpre3 hJ3 ho3 hf3 hB2 hnx hab hb0l
  clear W3
  rintro a W5 ⟨j, u0, u3, u4, u5, u6, u7, u11, u12, u13, u14, u15, u16, u17, u18, u19, u20, u21, u24, u25, u26, u27, u28, u29, u30, u31, u32, u33, u34, ds5, fp5, pre5, rfl, hj, hpre5, hM5⟩ J5 hJ5
  replace hJ5 := Lib.hid hJ5
  replace hpre5 := Lib.hid hpre5
  simp only [St.lt, St.th, St.le, St.el]
  have hj3 : j = 0 ∨ j = 1 ∨ j = 2 := by omega
  rcases hj3 with rfl | rfl | rfl
  ·have hM5' := hM5.new hJ ((Below.refl _ W5).alloc (Nat.le_refl _) (.cells #[.slice tA th.length tc] 33))
   have hbx := Blk.new W5 33 #[.slice tA th.length tc]
   have hnx : W5.heap.size ∉ fp5 := fun hm => by have := hfp _ _ _ hM5.j _ hm; omega
   have hsz5 : W.heap.size ≤ W5.heap.size := by have := hM5.bx.lt; have := hb0.out; omega
   have hix : ∀ w, Sem.run Tryz.prog (Instr.index 138 (.agg #[.slice tA th.length tc, .slice eA el.length ec]) (.int .i64 0)) w = .ok (.slice tA th.length tc) w := fun w => by kernel_rfl
   gi_wp2_with (refine ⟨trivial, no_depth, ?_⟩; gi_at_call 89; refine (callsIn_wide.2 (stmts_ok tA th.length tc _)).mono ?_; rintro e w' ⟨rfl, rfl⟩)
   have hB6 := (Below.refl _ W5).alloc (Nat.le_refl _) (.cells #[.slice tA th.length tc] 33)
   generalize W5.alloc (.cells #[.slice tA th.length tc] 33) = W6 at *
   generalize hBx : W5.heap.size = Bx at *
   have hsW6 : W.heap.size ≤ W6.heap.size := by have := hB6.size; omega
   have hbxl := hbx.lt
   rename_i hcont
   replace hcont := Lib.hid hcont
   refine wpIn_range3 rfl (enters_of Tryz.func112 (by kernel_rfl) rfl) ((ih (St.mk ⟨xk, xn, xb⟩ ⟨aA, ac⟩ ⟨tA, tc⟩ ⟨eA, ec⟩ ex th el) (List.mem_of_getElem? hx.out)).1 ⟨tA, tc⟩ Bx) (fun _ => rfl)
    (fun fp2 pre2 W' => Mine 137 l b0 W.heap.size J ds5 fp2 (pre5 ++ pre2) W' ∧ Blk W' Bx 33 #[.slice tA th.length tc] ∧ Bx ∉ fp2)
    (fun c pre2 W' => c = .ret ∧ Jx (pre5 ++ pre2) W' ∧ Marks W.heap.size W' ds5)
    (fun fp2 s A A' row hs hg hr => ⟨Mine.own hJ hM5'.mks hsW6 fp2 (pre5 ++ s) A A' row hs.1 hg hr, hs.2.1.ck (cellsKept_of_grown hg hr), hs.2.2⟩)
    (fun c s A A' row hs hg hr => ⟨hs.1, hJx (pre5 ++ s) A A' row hs.2.1 hg (fun r e => ⟨by have := (hr r e).1; omega, (hr r e).2⟩), marks_keep hM5'.mks hs.2.2 (cellsKept_of_grown hg hr) (Nat.le_refl _)⟩)
    (fun fp2 pre2 W' h => ⟨h.2.1, (okS_at (hRd _ _ _ h.1.j).2.2 hx.out).parts.2.1⟩) (fun fp2 pre2 W' h => hfp _ _ _ h.1.j) fp5 ⟨by rw [List.append_nil]; exact hM5', hbx, hnx⟩
    (AxB 40 (fun y => (y.cells eT).toArray) aggS 28 7 (fun pre2 y => (nodesS th)[pre2.length]? = some y)) own_axB ?assign1 ?body1 ?done1 ?hE1 ?stop1
   case assign1 =>
    intro l2 m2 fp2 pre2 y W7 K hI hX hK
    replace hK := Lib.hid hK
    obtain ⟨⟨yk, yn, yb⟩, ⟨yA, yc⟩, ⟨zA, zc⟩, ⟨vA, vc⟩, yx, yt, ye⟩ := y
    simp only [aggS, St.cells, eT]
    gi_wp2
    have hnew := Blk.new W7 40 #[.int .u8 yk, .string yn, .slice yA yx.length yc, .int .i64 yb, .slice zA yt.length zc, .slice vA ye.length vc]
    have hB3 := (Below.refl _ W7).alloc (Nat.le_refl _) (.cells #[.int .u8 yk, .string yn, .slice yA yx.length yc, .int .i64 yb, .slice zA yt.length zc, .slice vA ye.length vc] 40)
    have hfin := fun a' h => hK.out a' _ (only_of_below [] hB3) ⟨hI.1.new hJ hB3, hI.2.1.below hB3 hI.2.1.lt, hI.2.2⟩ ⟨_, h, hnew, hX⟩
    clear hnew hB3
    generalize W7.heap.size = N at hfin ⊢
    refine hfin _ ?_
    simp only [updB, aggS, St.cells, eT, List.setIfInBounds_toArray, List.set_cons_succ, List.set_cons_zero]
   case body1 =>
    rintro l2 m2 fp2 pre2 y a' W7 hI ⟨N, rfl, hN, hX⟩
    have hXo : (nodesS ls)[(pre5 ++ pre2).length]? = some y := by
     rw [List.length_append, hpre5.out, Nat.add_assoc]
     exact nodesS_at hx.out (St.nodes_th hX)
    obtain ⟨⟨yk, yn, yb⟩, ⟨yA, yc⟩, ⟨zA, zc⟩, ⟨vA, vc⟩, yx, yt, ye⟩ := y
    obtain ⟨fn, tmps, assign, body, hy, hR⟩ := hY (m2 - 1) fp2 (pre5 ++ pre2) _ W7 hI.1.j hXo
    have f0 := hI.1.bx.cell 0
    have g0 := hN.cell 0
    have g1 := hN.cell 1
    have g2 := hN.cell 2
    have g3 := hN.cell 3
    have g4 := hN.cell 4
    have g5 := hN.cell 5
    simp only [St.cells, eT, List.getElem?_toArray, List.getElem?_cons_zero, List.getElem?_cons_succ] at f0 g0 g1 g2 g3 g4 g5
    have hb0l := hI.1.bx.lt
    have hNl := hN.lt
    simp only [aggS, St.cells, eT] at hy
    simp only [updB, aggS, St.cells, eT, List.setIfInBounds_toArray, List.set_cons_succ, List.set_cons_zero]
    replace hXo := Lib.hid hXo
    replace hX := Lib.hid hX
    gi_wp2
    refine ⟨no_depth, ?_⟩
    refine RoundIn.mono (F := Fence.wide.inRound l2) hR ?_
    rintro e W4 (⟨rfl, ⟨fp', hJ3, hf3⟩, ho3⟩ | ⟨rfl, hJx3, fx, hfx, ho3⟩)
    ·gi_wp2
     have hM4 := hI.1.step hJ3 ho3 hf3
     refine ⟨ho3, fp', ⟨by rw [← List.append_assoc]; exact hM4, hI.2.1.only ho3 hI.2.2, fun hm => ?_⟩, hf3⟩
     rcases hf3 _ hm with h | h
     ·exact hI.2.2 h
     ·have := hI.2.1.lt; omega
    ·gi_wp2
     refine ⟨⟨fx, fun k hk => by have := hfx k hk; omega, ho3⟩, rfl, by rw [← List.append_assoc]; exact hJx3, hI.1.mks.keep fun D hD hm => ho3.block D (hI.1.mks.lt hm).1 fun hk => ?_⟩
     rcases List.mem_append.1 hk with h | h
     ·have := hfx _ h; omega
     ·exact hI.1.nm D hm h
   case done1 =>
    rintro Dd fp2 pre2 W7 hDd hlen hI hDn hDm
    have hM4 : Mine 137 l b0 W.heap.size J ({ target := .collected Dd, args := #[] } :: ds5) fp2 (pre5 ++ pre2) W7 :=
     ⟨hI.1.j, hI.1.bx, hI.1.nb, hI.1.mks.push (by omega) hDm (fun D' hm => by have := (hM5'.mks.lt hm).1; omega), fun D hm hk => by
      rcases List.mem_cons.1 hm with h | h
      ·cases h
       exact hDn hk
      ·exact hI.1.nm D h hk⟩
    have hpre4 : (pre5 ++ pre2).length = (nodesS (ls.take k)).length + partN (St.mk ⟨xk, xn, xb⟩ ⟨aA, ac⟩ ⟨tA, tc⟩ ⟨eA, ec⟩ ex th el) 1 := by
     rw [List.length_append, hpre5.out, hlen]; simp only [partN, St.th, St.el]; simp; omega
    replace hpre4 := Lib.hid hpre4
    replace hlen := Lib.hid hlen
    refine hcont.out _ _ ?_
    dsimp only
    gi_wp2
    refine hJ5.out _ _ ⟨1, _, _, _, _, _, _, _, _, _, _, _, _, _, _, _, _, _, _, _, _, _, _, _, _, _, _, _, _, _, fp2, pre5 ++ pre2, rfl, by omega, hpre4.out, hM4⟩ ?_
    simp [intOf]
   case hE1 => intro _ _ _ _ _ _ _ _ h; exact h
   case stop1 =>
    rintro Dd c pre2 W7 hDd ⟨rfl, hJx2, hmk⟩ hDm
    dsimp only
    gi_wp2
    refine leaves_own hJx (hmk.push (by omega) hDm (fun D' hm => by have := (hM5'.mks.lt hm).1; omega)) hJx2 fun W8 hJ8 => ?_
    exact ⟨_, results_none rfl _ _ _, ⟨_, rfl⟩, .inr ⟨_, hJ8⟩⟩
  ·have hM5' := hM5.new hJ ((Below.refl _ W5).alloc (Nat.le_refl _) (.cells #[.slice eA el.length ec] 33))
   have hbx := Blk.new W5 33 #[.slice eA el.length ec]
   have hnx : W5.heap.size ∉ fp5 := fun hm => by have := hfp _ _ _ hM5.j _ hm; omega
   have hsz5 : W.heap.size ≤ W5.heap.size := by have := hM5.bx.lt; have := hb0.out; omega
   have hix : ∀ w, Sem.run Tryz.prog (Instr.index 138 (.agg #[.slice tA th.length tc, .slice eA el.length ec]) (.int .i64 1)) w = .ok (.slice eA el.length ec) w := fun w => by kernel_rfl
   gi_wp2_with (refine ⟨trivial, no_depth, ?_⟩; gi_at_call 89; refine (callsIn_wide.2 (stmts_ok eA el.length ec _)).mono ?_; rintro e w' ⟨rfl, rfl⟩)
   have hB6 := (Below.refl _ W5).alloc (Nat.le_refl _) (.cells #[.slice eA el.length ec] 33)
   generalize W5.alloc (.cells #[.slice eA el.length ec] 33) = W6 at *
   generalize hBx : W5.heap.size = Bx at *
   have hsW6 : W.heap.size ≤ W6.heap.size := by have := hB6.size; omega
   have hbxl := hbx.lt
   rename_i hcont
   replace hcont := Lib.hid hcont
   refine wpIn_range3 rfl (enters_of Tryz.func112 (by kernel_rfl) rfl) ((ih (St.mk ⟨xk, xn, xb⟩ ⟨aA, ac⟩ ⟨tA, tc⟩ ⟨eA, ec⟩ ex th el) (List.mem_of_getElem? hx.out)).2 ⟨eA, ec⟩ Bx) (fun _ => rfl)
    (fun fp2 pre2 W' => Mine 137 l b0 W.heap.size J ds5 fp2 (pre5 ++ pre2) W' ∧ Blk W' Bx 33 #[.slice eA el.length ec] ∧ Bx ∉ fp2)
    (fun c pre2 W' => c = .ret ∧ Jx (pre5 ++ pre2) W' ∧ Marks W.heap.size W' ds5)
    (fun fp2 s A A' row hs hg hr => ⟨Mine.own hJ hM5'.mks hsW6 fp2 (pre5 ++ s) A A' row hs.1 hg hr, hs.2.1.ck (cellsKept_of_grown hg hr), hs.2.2⟩)
    (fun c s A A' row hs hg hr => ⟨hs.1, hJx (pre5 ++ s) A A' row hs.2.1 hg (fun r e => ⟨by have := (hr r e).1; omega, (hr r e).2⟩), marks_keep hM5'.mks hs.2.2 (cellsKept_of_grown hg hr) (Nat.le_refl _)⟩)
    (fun fp2 pre2 W' h => ⟨h.2.1, (okS_at (hRd _ _ _ h.1.j).2.2 hx.out).parts.2.2⟩) (fun fp2 pre2 W' h => hfp _ _ _ h.1.j) fp5 ⟨by rw [List.append_nil]; exact hM5', hbx, hnx⟩
    (AxB 40 (fun y => (y.cells eT).toArray) aggS 28 7 (fun pre2 y => (nodesS el)[pre2.length]? = some y)) own_axB ?assign2 ?body2 ?done2 ?hE2 ?stop2
   case assign2 =>
    intro l2 m2 fp2 pre2 y W7 K hI hX hK
    replace hK := Lib.hid hK
    obtain ⟨⟨yk, yn, yb⟩, ⟨yA, yc⟩, ⟨zA, zc⟩, ⟨vA, vc⟩, yx, yt, ye⟩ := y
    simp only [aggS, St.cells, eT]
    gi_wp2
    have hnew := Blk.new W7 40 #[.int .u8 yk, .string yn, .slice yA yx.length yc, .int .i64 yb, .slice zA yt.length zc, .slice vA ye.length vc]
    have hB3 := (Below.refl _ W7).alloc (Nat.le_refl _) (.cells #[.int .u8 yk, .string yn, .slice yA yx.length yc, .int .i64 yb, .slice zA yt.length zc, .slice vA ye.length vc] 40)
    have hfin := fun a' h => hK.out a' _ (only_of_below [] hB3) ⟨hI.1.new hJ hB3, hI.2.1.below hB3 hI.2.1.lt, hI.2.2⟩ ⟨_, h, hnew, hX⟩
    clear hnew hB3
    generalize W7.heap.size = N at hfin ⊢
    refine hfin _ ?_
    simp only [updB, aggS, St.cells, eT, List.setIfInBounds_toArray, List.set_cons_succ, List.set_cons_zero]
   case body2 =>
    rintro l2 m2 fp2 pre2 y a' W7 hI ⟨N, rfl, hN, hX⟩
    have hXo : (nodesS ls)[(pre5 ++ pre2).length]? = some y := by
     rw [List.length_append, hpre5.out, Nat.add_assoc]
     exact nodesS_at hx.out (St.nodes_el hX)
    obtain ⟨⟨yk, yn, yb⟩, ⟨yA, yc⟩, ⟨zA, zc⟩, ⟨vA, vc⟩, yx, yt, ye⟩ := y
    obtain ⟨fn, tmps, assign, body, hy, hR⟩ := hY (m2 - 1) fp2 (pre5 ++ pre2) _ W7 hI.1.j hXo
    have f0 := hI.1.bx.cell 0
    have g0 := hN.cell 0
    have g1 := hN.cell 1
    have g2 := hN.cell 2
    have g3 := hN.cell 3
    have g4 := hN.cell 4
    have g5 := hN.cell 5
    simp only [St.cells, eT, List.getElem?_toArray, List.getElem?_cons_zero, List.getElem?_cons_succ] at f0 g0 g1 g2 g3 g4 g5
    have hb0l := hI.1.bx.lt
    have hNl := hN.lt
    simp only [aggS, St.cells, eT] at hy
    simp only [updB, aggS, St.cells, eT, List.setIfInBounds_toArray, List.set_cons_succ, List.set_cons_zero]
    replace hXo := Lib.hid hXo
    replace hX := Lib.hid hX
    gi_wp2
    refine ⟨no_depth, ?_⟩
    refine RoundIn.mono (F := Fence.wide.inRound l2) hR ?_
    rintro e W4 (⟨rfl, ⟨fp', hJ3, hf3⟩, ho3⟩ | ⟨rfl, hJx3, fx, hfx, ho3⟩)
    ·gi_wp2
     have hM4 := hI.1.step hJ3 ho3 hf3
     refine ⟨ho3, fp', ⟨by rw [← List.append_assoc]; exact hM4, hI.2.1.only ho3 hI.2.2, fun hm => ?_⟩, hf3⟩
     rcases hf3 _ hm with h | h
     ·exact hI.2.2 h
     ·have := hI.2.1.lt; omega
    ·gi_wp2
     refine ⟨⟨fx, fun k hk => by have := hfx k hk; omega, ho3⟩, rfl, by rw [← List.append_assoc]; exact hJx3, hI.1.mks.keep fun D hD hm => ho3.block D (hI.1.mks.lt hm).1 fun hk => ?_⟩
     rcases List.mem_append.1 hk with h | h
     ·have := hfx _ h; omega
     ·exact hI.1.nm D hm h
   case done2 =>
    rintro Dd fp2 pre2 W7 hDd hlen hI hDn hDm
    have hM4 : Mine 137 l b0 W.heap.size J ({ target := .collected Dd, args := #[] } :: ds5) fp2 (pre5 ++ pre2) W7 :=
     ⟨hI.1.j, hI.1.bx, hI.1.nb, hI.1.mks.push (by omega) hDm (fun D' hm => by have := (hM5'.mks.lt hm).1; omega), fun D hm hk => by
      rcases List.mem_cons.1 hm with h | h
      ·cases h
       exact hDn hk
      ·exact hI.1.nm D h hk⟩
    have hpre4 : (pre5 ++ pre2).length = (nodesS (ls.take k)).length + partN (St.mk ⟨xk, xn, xb⟩ ⟨aA, ac⟩ ⟨tA, tc⟩ ⟨eA, ec⟩ ex th el) 2 := by
     rw [List.length_append, hpre5.out, hlen]; simp only [partN, St.th, St.el]; simp; omega
    replace hpre4 := Lib.hid hpre4
    replace hlen := Lib.hid hlen
    refine hcont.out _ _ ?_
    dsimp only
    gi_wp2
    refine hJ5.out _ _ ⟨2, _, _, _, _, _, _, _, _, _, _, _, _, _, _, _, _, _, _, _, _, _, _, _, _, _, _, _, _, _, fp2, pre5 ++ pre2, rfl, by omega, hpre4.out, hM4⟩ ?_
    simp [intOf]
   case hE2 => intro _ _ _ _ _ _ _ _ h; exact h
   case stop2 =>
    rintro Dd c pre2 W7 hDd ⟨rfl, hJx2, hmk⟩ hDm
    dsimp only
    gi_wp2
    refine leaves_own hJx (hmk.push (by omega) hDm (fun D' hm => by have := (hM5'.mks.lt hm).1; omega)) hJx2 fun W8 hJ8 => ?_
    exact ⟨_, results_none rfl _ _ _, ⟨_, rfl⟩, .inr ⟨_, hJ8⟩⟩
  ·have hpre6 : pre5.length = (nodesS (ls.take (k + 1))).length := by
    rw [hpre5.out, nodesS_take_succ hx.out, List.length_append, St.nodes_eq]
    simp [partN, St.th, St.el]; omega
   replace hpre6 := Lib.hid hpre6
   gi_wp2
   refine hJJ.out _ _ ⟨k + 1, _, _, _, _, _, _, _, _, _, _, _, _, _, _, _, _, _, _, _, _, _, _, _, _, _, _, _, _, _, _, ds5, fp5, pre5, rfl, by omega, hpre6.out, hM5⟩ ?_
   simp [intOf]; omega
 ·obtain rfl : k = n := by omega
  have he : pre.length = (nodesS ls).length := by rw [hpre, ← hn'.out, List.take_length]
  replace he := Lib.hid he
  replace hpre := Lib.hid hpre
  gi_wp2
  refine leaves_own (hJ fp1) hM.mks hM.j fun W4 hJ4 => ?_
  exact ⟨_, results_none rfl _ _ _, ⟨_, rfl⟩, .inl ⟨fp1, pre, he.out, hJ4⟩⟩
end Go.Proofs.YtnldbplphgfpeaaGreat
