/- Lemmas for salvor/salvorlaw29.TreeSmall (part 3); no condition. -/
import Derived.WalkMore
import Derived.Test.YtnldbplphgfpeaaGreatP02
namespace Go.Proofs.YtnldbplphgfpeaaGreat
open Go Go.RowKit Go.Shelf
set_option linter.unusedVariables false
set_option linter.unusedSimpArgs false
set_option maxHeartbeats 4000000
attribute [local go_sem] Oper.semAt_some
set_option maxRecDepth 100000 in
theorem countE_in (m : Nat) (e : Ex Loc) (b : Nat) (hb : b ≤ 9000000000000000000) (w : World) (hok : e.ok eT w) :
  CallsIn Fence.wide m Tryz.prog 77 #[aggX e, .int .i64 (b : Int)] w fun r w' => r = .returned (.int .i64 (capE b e.sz : Nat)) ∧ Below w.heap.size w w' := by
 obtain ⟨⟨xk, xo, xv, xw, xn⟩, ⟨xA, xc⟩, xs⟩ := e
 obtain ⟨sz, hsz⟩ : ∃ sz, sz = (Ex.mk ⟨xk, xo, xv, xw, xn⟩ ⟨xA, xc⟩ xs).sz := ⟨_, rfl⟩
 have hsz1 : 1 ≤ sz := by rw [hsz]; exact Ex.sz_pos _
 rw [← hsz]
 replace hsz := Lib.hid hsz
 simp only [aggX, Ex.cells, eT]
 refine callsIn_of_wp_marks Tryz.func77 rfl trivial ?_ rfl
 simp only [Tryz.ntmps77, List.size_toArray, List.length_cons, List.length_nil, Nat.reduceAdd, Nat.reduceSub, Array.replicate_succ, Array.replicate_zero, List.push_toArray, List.append_toArray, List.nil_append, List.cons_append]
 gi_wp2
 refine wpIn_wide.2 (wp_scope_straight ?_)
 refine (wpIn_wide (n := m)).1 ?_
 refine wpIn_seq_k (fun K hK => wpIn_label ?_)
 show K _ _
 refine hK _ _ ?_
 clear hK K
 gi_wp2_with (refine ⟨trivial, no_depth, ?_⟩; gi_at_call 80; refine (callsIn_wide.2 (exprs_ok ⟨xk, xo, xv, xw, xn⟩ ⟨xA, xc⟩ xs _)).mono ?_; rintro e w' ⟨rfl, rfl⟩)
 have hB0 : Below w.heap.size w (((w.alloc (.cells #[.int .u8 xk, .int .u8 xo, .int .u32 xv, .int .i64 xw, .string xn, .slice xA xs.length xc] 30)).alloc (.cells #[.int .i64 (b : Int)] 3)).alloc (.cells #[.int .u8 xk, .int .u8 xo, .int .u32 xv, .int .i64 xw, .string xn, .slice xA xs.length xc] 30)) :=
  (((Below.refl _ _).alloc (Nat.le_refl _) _).alloc (by simp) _).alloc (by simp; omega) _
 have hbb := (Blk.new (w.alloc (.cells #[.int .u8 xk, .int .u8 xo, .int .u32 xv, .int .i64 xw, .string xn, .slice xA xs.length xc] 30)) 3 #[.int .i64 (b : Int)]).alloc (.cells #[.int .u8 xk, .int .u8 xo, .int .u32 xv, .int .i64 xw, .string xn, .slice xA xs.length xc] 30)
 have hbx := Blk.new ((w.alloc (.cells #[.int .u8 xk, .int .u8 xo, .int .u32 xv, .int .i64 xw, .string xn, .slice xA xs.length xc] 30)).alloc (.cells #[.int .i64 (b : Int)] 3)) 30 #[.int .u8 xk, .int .u8 xo, .int .u32 xv, .int .i64 xw, .string xn, .slice xA xs.length xc]
 simp only [World.size_alloc] at hbb hbx
 generalize ((w.alloc (.cells #[.int .u8 xk, .int .u8 xo, .int .u32 xv, .int .i64 xw, .string xn, .slice xA xs.length xc] 30)).alloc (.cells #[.int .i64 (b : Int)] 3)).alloc (.cells #[.int .u8 xk, .int .u8 xo, .int .u32 xv, .int .i64 xw, .string xn, .slice xA xs.length xc] 30) = W0 at *
 obtain ⟨Bb, hBb⟩ : ∃ Bb, w.heap.size + 1 = Bb := ⟨_, rfl⟩
 obtain ⟨Bx, hBx⟩ : ∃ Bx, Bb + 1 = Bx := ⟨_, rfl⟩
 rw [hBb] at hbb hbx ⊢
 rw [hBx] at hbx ⊢
 replace hBb := Lib.hid hBb
 replace hBx := Lib.hid hBx
 rename_i hcont
 replace hcont := Lib.hid hcont
 have hb3 : Bx ∉ [Bb] := by simp; have := hBb.out; have := hBx.out; omega
 have hwB : w.heap.size ≤ Bb := by have := hBb.out; omega
 refine wpIn_range3_join rfl (enters_of Tryz.func107 (by kernel_rfl) rfl) (seqE (Ex.mk ⟨xk, xo, xv, xw, xn⟩ ⟨xA, xc⟩ xs) Bx) (fun _ => rfl)
  (fun fp pre W => fp = [Bb] ∧ Blk W Bb 3 #[.int .i64 ((b + pre.length : Nat) : Int)] ∧ Blk W Bx 30 #[.int .u8 xk, .int .u8 xo, .int .u32 xv, .int .i64 xw, .string xn, .slice xA xs.length xc] ∧ Below w.heap.size w W ∧ (pre = [] ∨ b + pre.length ≤ 20000))
  (fun _ W => Blk W Bb 3 #[.int .i64 ((capE b sz : Nat) : Int)] ∧ Below w.heap.size w W)
  (fun fp s A A' row hs hg hr => ⟨hs.1, hs.2.1.ck (cellsKept_of_grown hg hr), hs.2.2.1.ck (cellsKept_of_grown hg hr), below_ck hs.2.2.2.1 (Nat.le_refl _) (cellsKept_of_grown hg hr) hB0.size, hs.2.2.2.2⟩)
  (fun s A A' row hs hg hr => ⟨hs.1.ck (cellsKept_of_grown hg hr), below_ck hs.2 (Nat.le_refl _) (cellsKept_of_grown hg hr) hB0.size⟩)
  (fun fp pre W h => ⟨h.2.2.1, hok.below h.2.2.2.1⟩) (fun fp pre W h k hk => by rw [h.1] at hk; simp at hk; rw [hk]; exact h.2.1.lt) [Bb] ⟨rfl, hbb, hbx, hB0, .inl rfl⟩
  (fun T pre x a' W => a' = { tmps := T.setIfInBounds 7 (aggX x), defers := [] } ∧ (Ex.mk ⟨xk, xo, xv, xw, xn⟩ ⟨xA, xc⟩ xs).nodes[pre.length]? = some x) (fun _ _ _ => ownFrom_of fun _ _ _ _ h => h) ?assign 0 (fun _ _ h => h) ?body
  (fun W => Blk W Bb 3 #[.int .i64 ((capE b sz : Nat) : Int)] ∧ Below w.heap.size w W) ?done (fun _ _ _ _ _ _ _ _ h => h) (fun _ _ h => h) ?fin
 case assign =>
  intro l2 m2 fp pre y W2 K hI hX hK
  have hfin := hK { tmps := _, defers := [] } W2 (Only.refl _ _) hI ⟨rfl, hX⟩
  replace hfin := Lib.hid hfin
  clear hK
  simp only [List.setIfInBounds_toArray, List.set_cons_succ, List.set_cons_zero] at hfin
  simp [go_sem]
  gi_wp2
  exact hfin.out
 case body =>
  rintro l2 m2 fp pre y a' W2 ⟨rfl, h1, h2, h4, h5⟩ ⟨rfl, hX⟩
  have hlt : pre.length < sz := by rw [hsz.out, ← Ex.nodes_len]; exact (List.getElem?_eq_some_iff.1 hX).1
  have g0 := h1.cell 0
  simp only [List.getElem?_toArray, List.getElem?_cons_zero] at g0
  have hbl := h1.lt
  have g1 := h1.frozen 0
  have h1' := h1.set_ 0 (.int .i64 ((b + pre.length : Nat) + 1 : Int))
  have ho : Only [Bb] W2 (W2.setCell ⟨Bb, 0, none⟩ (.int .i64 ((b + pre.length : Nat) + 1 : Int))) := (Only.refl _ _).setCell (.inl (by simp)) _
  have hbe : Below w.heap.size w (W2.setCell ⟨Bb, 0, none⟩ (.int .i64 ((b + pre.length : Nat) + 1 : Int))) := h4.setCell hwB _
  have hb3' : Bx ≠ Bb := by simpa using hb3
  replace hX := Lib.hid hX
  replace h5 := Lib.hid h5
  simp only [List.setIfInBounds_toArray, List.set_cons_succ, List.set_cons_zero] at h1' ⊢
  have hl62 : ((b + pre.length : Nat) : Int) ≤ 9000000000000020000 := by rcases h5.out with h | h; (rw [h]; simp; omega); omega
  obtain ⟨q, hq⟩ : ∃ q, q = b + pre.length := ⟨_, rfl⟩
  rw [← hq] at g0 h1' ho hbe hl62
  have hq' := Lib.hid hq
  clear hq
  by_cases hgt : q + 1 ≤ 20000
  ·have hgi : ¬ (20000 : Int) < (q : Int) + 1 := by omega
   gi_wp2
   refine ⟨ho, [Bb], ⟨rfl, ?_, h2.far hb3' _, hbe, .inr (by rw [List.length_append]; simp; have := hq'.out; omega)⟩, fun k hk => .inl hk⟩
   have e : (b : Int) + ((pre ++ [y]).length : Int) = (q : Int) + 1 := by have := hq'.out; simp; omega
   rw [e]; exact h1'
  ·have hgi : (20000 : Int) < (q : Int) + 1 := by omega
   have hcap : capE b sz = q + 1 := by
    unfold capE
    have h5' := h5.out
    have := hq'.out
    rcases h5' with h | h
    ·rw [h] at this hlt
     simp at this hlt
     omega
    ·omega
   gi_wp2
   exact ⟨⟨[], by simp, ho⟩, rfl, by rw [hcap]; exact h1', hbe⟩
 case done =>
  rintro fp xs' W2 hlen ⟨rfl, h1, h2, h4, h5⟩
  refine ⟨?_, h4⟩
  have : capE b sz = b + xs'.length := by
   have h3 := hsz.out
   rw [hlen, ← h3]
   unfold capE
   rcases h5 with h | h
   ·rw [h] at hlen; simp at hlen; omega
   ·omega
  rw [this]; exact h1
 case fin =>
  rintro D W2 hD ⟨h1, h2⟩ hDm
  have g0 := h1.cell 0
  simp only [List.getElem?_toArray, List.getElem?_cons_zero] at g0
  have hbl := h1.lt
  refine hcont.out _ _ ?_
  gi_wp2
  rw [Exit.noGoto_ret]
  exact leaves_one hDm ⟨_, results_tmp rfl _ _ _, rfl, h2.trans (belowK_b (w := w) (Nat.le_refl _) W2 D _ _ (by have := hB0.size; omega) hDm rfl rfl)⟩
theorem countE (e : Ex Loc) (b : Nat) (hb : b ≤ 9000000000000000000) (w : World) (hok : e.ok eT w) :
  Calls Tryz.prog 77 #[aggX e, .int .i64 (b : Int)] w fun r w' => r = .returned (.int .i64 (capE b e.sz : Nat)) ∧ Below w.heap.size w w' := callsIn_wide.1 (countE_in 0 e b hb w hok)
def capX {α : Type} (b : Nat) (l : List (Ex α)) : Nat := l.foldl (fun b e => capE b e.sz) b
def cntL {α : Type} : List (St α) → Nat → Nat
 | [], b => b
 | s :: r, b => if 20000 < capX (b + 1) s.ex then capX (b + 1) s.ex else cntL r (capX (b + 1) s.ex)
theorem capX_snoc {α : Type} (b : Nat) (l : List (Ex α)) (e : Ex α) : capX b (l ++ [e]) = capE (capX b l) e.sz := by simp [capX]
theorem capX_take {α : Type} (b : Nat) {l : List (Ex α)} {k : Nat} {e : Ex α} (h : l[k]? = some e) : capX b (l.take (k + 1)) = capE (capX b (l.take k)) e.sz := by
 obtain ⟨hk, hx⟩ := List.getElem?_eq_some_iff.1 h
 rw [List.take_succ_eq_append_getElem hk, capX_snoc, hx]
theorem capX_le {α : Type} : ∀ (l : List (Ex α)) (b : Nat), capX b l ≤ max b 20001 + l.length
 | [], b => by simp [capX]; omega
 | e :: l, b => by
  have := capX_le l (capE b e.sz)
  have h2 : capE b e.sz ≤ max (b + 1) 20001 := by unfold capE; omega
  show capX (capE b e.sz) l ≤ _
  simp only [List.length_cons]; omega
theorem capX_exact {α : Type} : ∀ (l : List (Ex α)) (b : Nat), b + szs l ≤ 20000 → capX b l = b + szs l
 | [], b, _ => rfl
 | e :: l, b, h => by
  simp only [szs] at h ⊢
  have h2 : capE b e.sz = b + e.sz := by unfold capE; omega
  show capX (capE b e.sz) l = _
  rw [h2, capX_exact l _ (by omega)]; omega
theorem capX_more {α : Type} : ∀ (l : List (Ex α)) (b : Nat), 20000 < b + szs l → 20000 < capX b l
 | [], b, h => by simpa [capX, szs] using h
 | e :: l, b, h => by
  simp only [szs] at h
  refine capX_more l (capE b e.sz) ?_
  unfold capE; omega
theorem cntL_append {α : Type} : ∀ (l r : List (St α)) (b : Nat), cntL (l ++ r) b = if 20000 < cntL l b ∧ l ≠ [] then cntL l b else cntL r (cntL l b)
 | [], r, b => by simp [cntL]
 | s :: l, r, b => by
  simp only [List.cons_append, cntL]
  by_cases h : 20000 < capX (b + 1) s.ex
  ·simp [h]
  ·simp only [h, if_false]
   rw [cntL_append l r]
   by_cases hl : l = []
   ·subst hl; simp [cntL, h]
   ·simp [hl]
theorem cntL_step {α : Type} {N : List (St α)} {b k : Nat} {y : St α} (h : N[k]? = some y) (h5 : k = 0 ∨ cntL (N.take k) b ≤ 20000) : cntL (N.take (k + 1)) b = capX (cntL (N.take k) b + 1) y.ex := by
 obtain ⟨hk, hx⟩ := List.getElem?_eq_some_iff.1 h
 rw [List.take_succ_eq_append_getElem hk, hx, cntL_append, if_neg]
 ·simp [cntL]
 ·rintro ⟨h1, h2⟩
  rcases h5 with h5 | h5
  ·subst h5; simp at h2
  ·omega
theorem cntL_last {α : Type} {N : List (St α)} {b k : Nat} {y : St α} (h : N[k]? = some y) (h5 : k = 0 ∨ cntL (N.take k) b ≤ 20000) (hgt : 20000 < capX (cntL (N.take k) b + 1) y.ex) : cntL N b = capX (cntL (N.take k) b + 1) y.ex := by
 have hs := cntL_step h h5
 rw [← List.take_append_drop (k + 1) N, cntL_append, if_pos, hs, List.take_append_drop]
 ·rw [hs]
  refine ⟨hgt, fun h0 => ?_⟩
  have h1 := congrArg List.length h0
  have h2 := (List.getElem?_eq_some_iff.1 h).1
  rw [List.length_take, List.length_nil] at h1
  omega
def wtS {α : Type} (l : List (St α)) : Nat := (l.map fun s => 1 + szs s.ex).sum
mutual
theorem St.wt_nodes {α : Type} : ∀ s : St α, wtS s.nodes = s.sz
 | .mk h a b c ex th el => by
  simp only [St.nodes, St.sz, wtS, List.map_cons, List.map_append, List.sum_cons, List.sum_append]
  rw [show (St.mk h a b c ex th el).ex = ex from rfl]
  have h1 := wt_nodesS th
  have h2 := wt_nodesS el
  simp only [wtS] at h1 h2
  rw [h1, h2]; omega
theorem wt_nodesS {α : Type} : ∀ l : List (St α), wtS (nodesS l) = szS l
 | [] => rfl
 | s :: l => by
  have h1 := s.wt_nodes
  have h2 := wt_nodesS l
  simp only [wtS] at h1 h2
  simp only [nodesS, szS, wtS, List.map_append, List.sum_append, h1, h2]
end
theorem cntL_exact {α : Type} : ∀ (l : List (St α)) (b : Nat), b + wtS l ≤ 20000 → cntL l b = b + wtS l
 | [], b, _ => rfl
 | s :: l, b, h => by
  simp only [wtS, List.map_cons, List.sum_cons] at h ⊢
  have h2 := capX_exact s.ex (b + 1) (by omega)
  simp only [cntL, h2]
  rw [if_neg (by omega), cntL_exact l _ (by simp only [wtS]; omega)]
  simp only [wtS]; omega
theorem cntL_more {α : Type} : ∀ (l : List (St α)) (b : Nat), 20000 < b + wtS l → 20000 < cntL l b
 | [], b, h => by simpa [cntL, wtS] using h
 | s :: l, b, h => by
  simp only [wtS, List.map_cons, List.sum_cons] at h
  simp only [cntL]
  by_cases h2 : 20000 < capX (b + 1) s.ex
  ·rw [if_pos h2]; exact h2
  ·rw [if_neg h2]
   have h3 : capX (b + 1) s.ex = b + 1 + szs s.ex := capX_exact _ _ (Nat.not_lt.1 fun hc => h2 (capX_more _ _ hc))
   refine cntL_more l _ ?_
   rw [h3]
   simp only [wtS]; omega
def Thin {α : Type} (l : List (St α)) : Prop := ∀ s ∈ nodesS l, s.ex.length ≤ 20000
theorem cntL_le {α : Type} : ∀ (l : List (St α)) (b : Nat), (∀ s ∈ l, s.ex.length ≤ 20000) → b ≤ 4611686018427387904 → cntL l b ≤ max b 20001 + 20001
 | [], b, _, hb => by simp only [cntL]; omega
 | s :: l, b, h, hb => by
  have h1 := capX_le s.ex (b + 1)
  have h2 := h s (by simp)
  simp only [cntL]
  split
  ·omega
  ·have := cntL_le l (capX (b + 1) s.ex) (fun x hx => h x (by simp [hx])) (by omega)
   omega
mutual
theorem St.nodes_ok {E : Enc} {W : World} : ∀ {e : St Loc}, e.ok E W → ∀ x ∈ e.nodes, x.ok E W
 | .mk h a b c ex th el, hk, x, hx => by
  simp only [St.nodes, List.mem_cons, List.mem_append] at hx
  rcases hx with e | hx | hx
  ·rw [e]; exact hk
  ·exact nodesS_ok hk.2.2.2.1 x hx
  ·exact nodesS_ok hk.2.2.2.2.2 x hx
theorem nodesS_ok {E : Enc} {W : World} : ∀ {l : List (St Loc)}, okS E W l → ∀ x ∈ nodesS l, x.ok E W
 | [], _, x, hx => by cases hx
 | y :: r, hk, x, hx => by
  simp only [nodesS, List.mem_append] at hx
  rcases hx with hx | hx
  ·exact St.nodes_ok hk.1 x hx
  ·exact nodesS_ok hk.2 x hx
end
set_option maxRecDepth 100000 in
theorem countS_in (m : Nat) (ls : List (St Loc)) (lc : Loc) (b : Nat) (hb : b ≤ 4611686018427387904) (hthin : Thin ls) (w : World) (hok : Lst.ok eT w lc ls) :
  CallsIn Fence.wide m Tryz.prog 85 #[.slice lc.A ls.length lc.c, .int .i64 (b : Int)] w fun r w' => r = .returned (.int .i64 (cntL (nodesS ls) b : Nat)) ∧ Below w.heap.size w w' := by
 obtain ⟨n, hn⟩ : ∃ n, n = ls.length := ⟨_, rfl⟩
 rw [← hn]
 obtain ⟨R, hR⟩ : ∃ R, R = cntL (nodesS ls) b := ⟨_, rfl⟩
 rw [← hR]
 replace hn := Lib.hid hn
 replace hR := Lib.hid hR
 replace hthin := Lib.hid hthin
 refine callsIn_of_wp_marks Tryz.func85 rfl trivial ?_ rfl
 simp only [Tryz.ntmps85, List.size_toArray, List.length_cons, List.length_nil, Nat.reduceAdd, Nat.reduceSub, Array.replicate_succ, Array.replicate_zero, List.push_toArray, List.append_toArray, List.nil_append, List.cons_append]
 gi_wp2
 refine wpIn_wide.2 (wp_scope_straight ?_)
 refine (wpIn_wide (n := m)).1 ?_
 refine wpIn_seq_k (fun K hK => wpIn_label ?_)
 show K _ _
 refine hK _ _ ?_
 clear hK K
 gi_wp2_with (refine ⟨trivial, no_depth, ?_⟩; gi_at_call 89; refine (callsIn_wide.2 (stmts_ok lc.A n lc.c _)).mono ?_; rintro e w' ⟨rfl, rfl⟩)
 have hB0 : Below w.heap.size w ((w.alloc (.cells #[.int .i64 (b : Int)] 3)).alloc (.cells #[.slice lc.A n lc.c] 33)) := ((Below.refl _ _).alloc (Nat.le_refl _) _).alloc (by simp) _
 have hbb := (Blk.new w 3 #[.int .i64 (b : Int)]).alloc (.cells #[.slice lc.A n lc.c] 33)
 have hbx := Blk.new (w.alloc (.cells #[.int .i64 (b : Int)] 3)) 33 #[.slice lc.A n lc.c]
 simp only [World.size_alloc] at hbx
 generalize (w.alloc (.cells #[.int .i64 (b : Int)] 3)).alloc (.cells #[.slice lc.A n lc.c] 33) = W0 at *
 obtain ⟨Bb, hBb⟩ : ∃ Bb, w.heap.size = Bb := ⟨_, rfl⟩
 obtain ⟨Bx, hBx⟩ : ∃ Bx, Bb + 1 = Bx := ⟨_, rfl⟩
 rw [hBb] at hbb hbx hB0 ⊢
 rw [hBx] at hbx ⊢
 have hb3 : Bx ≠ Bb := by omega
 replace hBb := Lib.hid hBb
 replace hBx := Lib.hid hBx
 rename_i hcont
 replace hcont := Lib.hid hcont
 refine wpIn_range3_join rfl (enters_of Tryz.func112 (by kernel_rfl) rfl) (seqS ls lc Bx) (fun _ => rfl)
  (fun fp pre W => fp = [Bb] ∧ Blk W Bb 3 #[.int .i64 (cntL ((nodesS ls).take pre.length) b : Nat)] ∧ Blk W Bx 33 #[.slice lc.A n lc.c] ∧ Below Bb w W ∧ (pre = [] ∨ cntL ((nodesS ls).take pre.length) b ≤ 20000) ∧ pre.length ≤ (nodesS ls).length)
  (fun _ W => Blk W Bb 3 #[.int .i64 (R : Nat)] ∧ Below Bb w W)
  (fun fp s A A' row hs hg hr => ⟨hs.1, hs.2.1.ck (cellsKept_of_grown hg hr), hs.2.2.1.ck (cellsKept_of_grown hg hr), below_ck hs.2.2.2.1 (by rw [hBb.out]; exact Nat.le_refl _) (cellsKept_of_grown hg hr) (by have := hbb.lt; omega), hs.2.2.2.2⟩)
  (fun s A A' row hs hg hr => ⟨hs.1.ck (cellsKept_of_grown hg hr), below_ck hs.2 (by rw [hBb.out]; exact Nat.le_refl _) (cellsKept_of_grown hg hr) (by have := hbb.lt; omega)⟩)
  (fun fp pre W h => ⟨by rw [← hn.out]; exact h.2.2.1, hok.all (keeps_below (by rw [hBb.out]; exact h.2.2.2.1))⟩) (fun fp pre W h k hk => by rw [h.1] at hk; simp at hk; rw [hk]; exact h.2.1.lt) [Bb] ⟨rfl, hbb, hbx, hB0, .inl rfl, Nat.zero_le _⟩
  (AxB 40 (fun y => (y.cells eT).toArray) aggS 10 5 (fun pre y => (nodesS ls)[pre.length]? = some y)) own_axB ?assign 0 (fun _ _ h => h) ?body
  (fun W => Blk W Bb 3 #[.int .i64 (R : Nat)] ∧ Below Bb w W) ?done (fun _ _ _ _ _ _ _ _ h => h) (fun _ _ h => h) ?fin
 case assign =>
  intro l2 m2 fp pre2 y W3 K hI hX hK
  replace hK := Lib.hid hK
  obtain ⟨⟨yk, yn, yb⟩, ⟨yA, yc⟩, ⟨zA, zc⟩, ⟨vA, vc⟩, yx, yt, ye⟩ := y
  simp only [aggS, St.cells, eT]
  gi_wp2
  have hnew := Blk.new W3 40 #[.int .u8 yk, .string yn, .slice yA yx.length yc, .int .i64 yb, .slice zA yt.length zc, .slice vA ye.length vc]
  have hB3 := (Below.refl _ W3).alloc (Nat.le_refl _) (.cells #[.int .u8 yk, .string yn, .slice yA yx.length yc, .int .i64 yb, .slice zA yt.length zc, .slice vA ye.length vc] 40)
  have hfin := fun a' h => hK.out a' _ (only_of_below [] hB3) ⟨hI.1, hI.2.1.below hB3 hI.2.1.lt, hI.2.2.1.below hB3 hI.2.2.1.lt, hI.2.2.2.1.trans (hB3.mono (by have := hI.2.1.lt; omega)), hI.2.2.2.2⟩ ⟨_, h, hnew, hX⟩
  clear hnew hB3
  generalize W3.heap.size = N at hfin ⊢
  refine hfin _ ?_
  simp only [updB, aggS, St.cells, eT, List.setIfInBounds_toArray, List.set_cons_succ, List.set_cons_zero]
 case body =>
  rintro l2 m2 fp pre y a' W2 ⟨rfl, h1, h2, h4, h5, h6⟩ ⟨N, rfl, hN, hX⟩
  have hthy := hthin.out y (List.mem_of_getElem? hX)
  have hokl : Lst.ok eT W2 lc ls := hok.all (keeps_below (by rw [hBb.out]; exact h4))
  have hyok := nodesS_ok hokl.2 y (List.mem_of_getElem? hX)
  obtain ⟨⟨yk, yn, yb⟩, ⟨yA, yc⟩, ⟨zA, zc⟩, ⟨vA, vc⟩, yx, yt, ye⟩ := y
  have hyx : Lex.ok eT W2 ⟨yA, yc⟩ yx := hyok.parts.1
  have hp0 : pre.length = 0 ∨ cntL ((nodesS ls).take pre.length) b ≤ 20000 := h5.imp (fun h => by rw [h]; rfl) id
  have hstep : cntL ((nodesS ls).take (pre.length + 1)) b = capX (cntL ((nodesS ls).take pre.length) b + 1) yx := cntL_step hX hp0
  have hlast : 20000 < capX (cntL ((nodesS ls).take pre.length) b + 1) yx → R = capX (cntL ((nodesS ls).take pre.length) b + 1) yx := fun hgt => hR.out.trans (cntL_last hX hp0 hgt)
  clear hp0
  have hq62 : cntL ((nodesS ls).take pre.length) b ≤ 4611686018427387904 + 40000 := by
   have := cntL_le ((nodesS ls).take pre.length) b (fun s hs => hthin.out s (List.mem_of_mem_take hs)) hb
   omega
  have hcx := fun k => capX_le (yx.take k) (cntL ((nodesS ls).take pre.length) b + 1)
  obtain ⟨q, hq⟩ : ∃ q, q = cntL ((nodesS ls).take pre.length) b := ⟨_, rfl⟩
  rw [← hq] at h1 h5 hstep hlast hq62 hcx
  replace hq := Lib.hid hq
  have hx2 : yx.length ≤ 20000 := hthy
  replace hX := Lib.hid hX
  replace hstep := Lib.hid hstep
  replace hlast := Lib.hid hlast
  replace h5 := Lib.hid h5
  replace hcx := Lib.hid hcx
  clear hthy hokl hyok
  have f0 := h1.cell 0
  have f1 := h1.frozen 0
  have g2 := hN.cell 2
  simp only [St.cells, eT, List.getElem?_toArray, List.getElem?_cons_zero, List.getElem?_cons_succ] at f0 g2
  have hbl := h1.lt
  have hNl := hN.lt
  have hNb : N ≠ Bb := Blk.ne_ hN h1 (by decide)
  have ho3 : Only [Bb] W2 (W2.setCell ⟨Bb, 0, none⟩ (.int .i64 ((q : Int) + 1))) := (Only.refl _ _).setCell (.inl (by simp)) _
  have h13 := h1.set_ 0 (.int .i64 ((q : Int) + 1))
  have hN3 := hN.far (p := ⟨Bb, 0, none⟩) hNb (.int .i64 ((q : Int) + 1))
  simp only [List.setIfInBounds_toArray, List.set_cons_zero] at h13
  simp only [updB, aggS, St.cells, eT, List.setIfInBounds_toArray, List.set_cons_succ, List.set_cons_zero]
  have hLex : ∀ W', Below Bb w W' → Lex.ok eT W' ⟨yA, yc⟩ yx := fun W' hb => by
   have h := hok.all (keeps_below (w' := W') (by rw [hBb.out]; exact hb))
   exact (nodesS_ok h.2 _ (List.mem_of_getElem? hX.out)).parts.1
  replace hLex := Lib.hid hLex
  have hB3 : Below Bb w (W2.setCell ⟨Bb, 0, none⟩ (.int .i64 ((q : Int) + 1))) := h4.setCell (by show Bb ≤ Bb; omega) _
  have h23 := h2.far (p := ⟨Bb, 0, none⟩) hb3 (.int .i64 ((q : Int) + 1))
  gi_wp2
  clear hyx h1 hN f0 f1 g2 h2 h4
  generalize W2.setCell ⟨Bb, 0, none⟩ (.int .i64 ((q : Int) + 1)) = W3 at *
  have hs3 : W2.heap.size ≤ W3.heap.size := ho3.size
  gi_loopw [16] (fun i wr => ∃ k : Nat, i = .int .i64 k ∧ k ≤ yx.length ∧ Blk wr Bb 3 #[.int .i64 (capX (q + 1) (yx.take k) : Nat)] ∧ Below Bb w wr ∧ Only [Bb] W2 wr ∧ Blk wr Bx 33 #[.slice lc.A n lc.c]) (fun i _ => yx.length - (intOf i).toNat)
  case atStart => exact ⟨0, rfl, Nat.zero_le _, h13, hB3, ho3, h23⟩
  case round =>
   clear h13 hB3 ho3 h23 hN3
   obtain ⟨k, rfl, hk, h1, hB, ho, h2⟩ := hrel
   have hyx := hLex.out wr hB
   have k0 : 0 ≤ (k : Int) := by omega
   have f0 := h1.cell 0
   have f1 := h1.frozen 0
   simp only [List.getElem?_toArray, List.getElem?_cons_zero] at f0
   have hbl := h1.lt
   have hck := hcx.out k
   have htk : (yx.take k).length ≤ k := by rw [List.length_take]; omega
   by_cases hlt : k < yx.length
   ·have hx : yx[k]? = some (yx[k]'hlt) := List.getElem?_eq_getElem hlt
    generalize yx[k]'hlt = x at hx
    have hnext : capX (q + 1) (yx.take (k + 1)) = capE (capX (q + 1) (yx.take k)) x.sz := capX_take _ hx
    obtain ⟨ad, hA, hblk, _, hxok, hcells⟩ := hyx.at hx
    obtain ⟨⟨xk, xo, xv, xw, xn⟩, ⟨xA, xc⟩, xs⟩ := x
    obtain ⟨c0, c1, c2, c3, c4, c5⟩ := CellsAt.c6 hcells
    simp only [eT] at c0 c1 c2 c3 c4 c5
    dsimp only at hA
    subst hA
    have k1 : (k : Int) < (yx.length : Int) := by omega
    have hab := cell_lt c0
    have hBx4 := (Below.refl _ wr).alloc (Nat.le_refl _) (.cells #[.int .u8 xk, .int .u8 xo, .int .u32 xv, .int .i64 xw, .string xn, .slice xA xs.length xc] 30)
    have h14 := h1.below hBx4 hbl
    have f4 := h14.cell 0
    simp only [List.getElem?_toArray, List.getElem?_cons_zero] at f4
    have hcall := countE (Ex.mk ⟨xk, xo, xv, xw, xn⟩ ⟨xA, xc⟩ xs) (capX (q + 1) (yx.take k)) (by omega) _ (hxok.below hBx4)
    simp only [aggX, Ex.cells, eT] at hcall
    obtain ⟨c, hc⟩ : ∃ c, c = capX (q + 1) (yx.take k) := ⟨_, rfl⟩
    obtain ⟨c', hc'⟩ : ∃ c', c' = capE c (Ex.mk ⟨xk, xo, xv, xw, xn⟩ ⟨xA, xc⟩ xs).sz := ⟨_, rfl⟩
    rw [← hc] at f0 f4 h1 h14 hcall hnext hck
    rw [← hc'] at hcall hnext
    replace hc := Lib.hid hc
    replace hc' := Lib.hid hc'
    replace hcall := Lib.hid hcall
    replace hnext := Lib.hid hnext
    replace hx := Lib.hid hx
    replace hck := Lib.hid hck
    replace htk := Lib.hid htk
    replace hblk := Lib.hid hblk
    gi_wp2_with (refine ⟨trivial, no_depth, ?_⟩; gi_at_call 77; refine ((callsIn_wide.2 hcall.out).inRound l2).mono ?_; rintro e w5 ⟨rfl, hB5⟩; have h15 := h14.below hB5 h14.lt; have f5 := h15.cell 0; have f6 := h15.frozen 0; simp only [List.getElem?_toArray, List.getElem?_cons_zero] at f5; have hl5 := h15.lt)
    go_roundw
    case rel =>
     refine ⟨k + 1, by go_num, by omega, ?_, ?_, ?_, ?_⟩
     ·rw [hnext.out]
      have := h15.set_ 0 (.int .i64 (c' : Int))
      simpa using this
     ·exact ((hB.alloc (by omega) _).trans (hB5.mono (by simp; omega))).setCell (by show Bb ≤ Bb; omega) _
     ·exact ((ho.new hBx4).new hB5).setCell (.inl (by simp)) _
     ·exact ((h2.below hBx4 h2.lt).below hB5 (by have := h2.lt; simp; omega)).far (p := ⟨Bb, 0, none⟩) hb3 _
    case measure => simp [intOf]; omega
   ·obtain rfl : k = yx.length := by omega
    rw [List.take_length] at f0 h1 hck
    have hst : cntL ((nodesS ls).take (pre.length + 1)) b = capX (q + 1) yx := hstep.out
    obtain ⟨c, hc⟩ : ∃ c, c = capX (q + 1) yx := ⟨_, rfl⟩
    have hla := hlast.out
    rw [← hc] at f0 h1 hck hst hla
    replace hc := Lib.hid hc
    replace hst := Lib.hid hst
    replace hla := Lib.hid hla
    have hpl : pre.length < (nodesS ls).length := (List.getElem?_eq_some_iff.1 hX.out).1
    by_cases hgt : 20000 < c
    ·have hgi : (20000 : Int) < (c : Int) := by omega
     gi_wp2
     exact ⟨⟨[], by simp, ho⟩, rfl, by rw [hla.out hgt]; exact h1, hB⟩
    ·have hgi : ¬ (20000 : Int) < (c : Int) := by omega
     gi_wp2
     refine ⟨ho, [Bb], ⟨rfl, ?_, h2, hB, .inr ?_, ?_⟩, fun k hk => .inl hk⟩
     ·rw [List.length_append, List.length_singleton, hst.out]; exact h1
     ·rw [List.length_append, List.length_singleton, hst.out]; omega
     ·rw [List.length_append, List.length_singleton]; omega
 case done =>
  rintro fp xs' W2 hlen ⟨rfl, h1, h2, h4, h5, h6⟩
  refine ⟨?_, h4⟩
  rw [hlen, List.take_length] at h1
  rw [hR.out]; exact h1
 case fin =>
  rintro D W2 hD ⟨h1, h2⟩ hDm
  have g0 := h1.cell 0
  simp only [List.getElem?_toArray, List.getElem?_cons_zero] at g0
  have hbl := h1.lt
  refine hcont.out _ _ ?_
  gi_wp2
  rw [Exit.noGoto_ret]
  have hD2 := hB0.size
  have hb2 := hBb.out
  exact leaves_one hDm ⟨_, results_tmp rfl _ _ _, rfl, by rw [hb2]; exact h2.trans (belowK_b (w := w) (by omega) W2 D _ _ (by omega) hDm rfl rfl)⟩
theorem countS (ls : List (St Loc)) (lc : Loc) (b : Nat) (hb : b ≤ 4611686018427387904) (hthin : Thin ls) (w : World) (hok : Lst.ok eT w lc ls) :
  Calls Tryz.prog 85 #[.slice lc.A ls.length lc.c, .int .i64 (b : Int)] w fun r w' => r = .returned (.int .i64 (cntL (nodesS ls) b : Nat)) ∧ Below w.heap.size w w' := callsIn_wide.1 (countS_in 0 ls lc b hb hthin w hok)
end Go.Proofs.YtnldbplphgfpeaaGreat
namespace Go.Proofs.YtnldbplphgfpeaaGreat
open Go Go.RowKit Go.Shelf
set_option linter.unusedVariables false
set_option linter.unusedSimpArgs false
set_option maxHeartbeats 4000000
theorem light_yes (n : Int) (h : n ≤ 20000) (w : World) : Calls Tryz.prog 78 #[.int .i64 n] w fun e w' => e = .returned (.bool true) ∧ w = w' := by
 go_enter Tryz.func78, Tryz.ntmps78
 go_wp2
 go_ret
 exact ⟨rfl, rfl⟩
theorem light_no (n : Int) (h : 20000 < n) (w : World) : Calls Tryz.prog 78 #[.int .i64 n] w fun e w' => e = .returned (.bool false) ∧ w = w' := by
 have h' : ¬ n ≤ 20000 := by omega
 go_enter Tryz.func78, Tryz.ntmps78
 go_wp2
 go_ret
 exact ⟨rfl, rfl⟩
theorem sized_yes (n : Int) (h : n ≤ 20000) (w : World) : Calls Tryz.prog 76 #[.int .i64 n] w fun e w' => e = .returned (.int .i64 n) ∧ w = w' := by
 go_enter Tryz.func76, Tryz.ntmps76
 go_wp2_with (go_at_call 78; refine (light_yes n h _).mono ?_; rintro e w' ⟨rfl, rfl⟩)
 go_ret
 exact ⟨rfl, rfl⟩
theorem sized_no (n : Int) (h : 20000 < n) (w : World) : Calls Tryz.prog 76 #[.int .i64 n] w fun e w' => e = .returned (.int .i64 0) ∧ w = w' := by
 go_enter Tryz.func76, Tryz.ntmps76
 go_wp2_with (go_at_call 78; refine (light_no n h _).mono ?_; rintro e w' ⟨rfl, rfl⟩)
 go_ret
 exact ⟨rfl, rfl⟩
theorem capE_yes {b s : Nat} (h : b + s ≤ 20000) : capE b s = b + s := by unfold capE; omega
theorem capE_no {b s : Nat} (h : 20000 < b + s) : 20000 < capE b s := by unfold capE; omega
theorem countE0 (e : Ex Loc) (w : World) (hok : e.ok eT w) : Calls Tryz.prog 77 #[aggX e, .int .i64 0] w fun r w' => r = .returned (.int .i64 (capE 0 e.sz : Nat)) ∧ Below w.heap.size w w' := countE e 0 (by omega) w hok
theorem countS0 (ls : List (St Loc)) (lc : Loc) (hthin : Thin ls) (w : World) (hok : Lst.ok eT w lc ls) :
  Calls Tryz.prog 85 #[.slice lc.A ls.length lc.c, .int .i64 0] w fun r w' => r = .returned (.int .i64 (cntL (nodesS ls) 0 : Nat)) ∧ Below w.heap.size w w' := countS ls lc 0 (by omega) hthin w hok
theorem sizeE (e : Ex Loc) (w : World) (hok : e.ok eT w) (n : Nat) (hn : n = if e.sz ≤ 20000 then e.sz else 0) : Calls Tryz.prog 9 #[aggX e] w fun r w' => r = .returned (.int .i64 (n : Nat)) ∧ Below w.heap.size w w' := by
 have hB := (Below.refl _ w).alloc (Nat.le_refl _) (.cells (e.cells eT).toArray 30)
 have hc := countE0 e _ (hok.below hB)
 have hs : ∀ w', Calls Tryz.prog 76 #[.int .i64 (capE 0 e.sz : Nat)] w' fun r w'' => r = .returned (.int .i64 (n : Nat)) ∧ w' = w'' := fun w' => by
  by_cases h : e.sz ≤ 20000
  ·have h1 : capE 0 e.sz = n := by rw [hn, if_pos h, capE_yes (by omega)]; omega
   rw [h1]
   exact sized_yes _ (by rw [hn, if_pos h]; omega) _
  ·have h1 := capE_no (b := 0) (s := e.sz) (by omega)
   rw [hn, if_neg h]
   exact sized_no _ (by omega) _
 obtain ⟨⟨xk, xo, xv, xw, xn⟩, ⟨xA, xc⟩, xs⟩ := e
 obtain ⟨c, hcc⟩ : ∃ c, c = capE 0 (Ex.mk ⟨xk, xo, xv, xw, xn⟩ ⟨xA, xc⟩ xs).sz := ⟨_, rfl⟩
 rw [← hcc] at hc hs
 replace hn := Lib.hid hn
 replace hcc := Lib.hid hcc
 simp only [aggX, Ex.cells, eT] at hc hB ⊢
 replace hc := Lib.hid hc
 replace hs := Lib.hid hs
 go_enter Tryz.func9, Tryz.ntmps9
 go_wp2_with (first | (go_at_call 77; with_reducible refine hc.out.mono ?_; rintro e w' ⟨rfl, hB2⟩) | (go_at_call 76; refine (hs.out _).mono ?_; rintro e w2 ⟨rfl, rfl⟩))
 go_ret
 exact ⟨rfl, hB.trans (hB2.mono hB.size)⟩
theorem sizeS (ls : List (St Loc)) (lc : Loc) (hthin : Thin ls) (w : World) (hok : Lst.ok eT w lc ls) (n : Nat) (hn : n = if szS ls ≤ 20000 then szS ls else 0) :
  Calls Tryz.prog 14 #[.slice lc.A ls.length lc.c] w fun r w' => r = .returned (.int .i64 (n : Nat)) ∧ Below w.heap.size w w' := by
 have hc := countS0 ls lc hthin w hok
 have hs : ∀ w', Calls Tryz.prog 76 #[.int .i64 (cntL (nodesS ls) 0 : Nat)] w' fun r w'' => r = .returned (.int .i64 (n : Nat)) ∧ w' = w'' := fun w' => by
  by_cases h : szS ls ≤ 20000
  ·have h1 : cntL (nodesS ls) 0 = n := by rw [hn, if_pos h, cntL_exact _ _ (by rw [wt_nodesS]; omega), wt_nodesS]; omega
   rw [h1]
   exact sized_yes _ (by rw [hn, if_pos h]; omega) _
  ·have h1 := cntL_more (nodesS ls) 0 (by rw [wt_nodesS]; omega)
   rw [hn, if_neg h]
   exact sized_no _ (by omega) _
 obtain ⟨c, hcc⟩ : ∃ c, c = cntL (nodesS ls) 0 := ⟨_, rfl⟩
 rw [← hcc] at hc hs
 replace hn := Lib.hid hn
 replace hcc := Lib.hid hcc
 replace hc := Lib.hid hc
 replace hs := Lib.hid hs
 generalize ls.length = q at *
 go_enter Tryz.func14, Tryz.ntmps14
 go_wp2_with (first | (go_at_call 85; with_reducible refine hc.out.mono ?_; rintro e w' ⟨rfl, hB2⟩) | (go_at_call 76; refine (hs.out _).mono ?_; rintro e w2 ⟨rfl, rfl⟩))
 go_ret
 exact ⟨rfl, hB2⟩
theorem thin_of {α : Type} {l : List (St α)} (h : szS l ≤ 20000) : Thin l := fun s hs => by
 have h1 : 1 + szs s.ex ≤ wtS (nodesS l) := by
  have : ∀ (N : List (St α)), s ∈ N → 1 + szs s.ex ≤ wtS N := by
   intro N
   induction N with
   | nil => intro h; cases h
   | cons x N ih =>
    intro h
    simp only [wtS, List.map_cons, List.sum_cons] at ih ⊢
    rcases List.mem_cons.1 h with e | h
    ·rw [e]; omega
    ·have := ih h; omega
  exact this _ hs
 rw [wt_nodesS] at h1
 have := szs_len s.ex
 omega
theorem ret_b {a b : Bool} (h : a = b) : Ending.returned (.bool a) = .returned (.bool b) := by rw [h]
def SameE (a : Ex Loc) : Prop := ∀ (b : Ex Loc) (w : World), a.ok eT w → b.ok eT w → Calls Tryz.prog 79 #[aggX a, aggX b] w fun e w' => e = .returned (.bool (a.same b)) ∧ Below w.heap.size w w'
theorem sames_false {α β : Type} {a : List (Ex α)} {b : List (Ex β)} {k : Nat} {x : Ex α} {y : Ex β} (hx : a[k]? = some x) (hy : b[k]? = some y) (h : x.same y = false) : sames a b = false := by
 cases hs : sames a b with
 | false => rfl
 | true => rw [(sames_at a b (sames_len hs)).1 hs k x y hx hy] at h; cases h
set_option maxRecDepth 100000 in
theorem equalE (la lb : Loc) (a b : List (Ex Loc)) (hall : ∀ x ∈ a, SameE x) (w : World) (ha : Lex.ok eT w la a) (hb : Lex.ok eT w lb b) :
  Calls Tryz.prog 106 #[.slice la.A a.length la.c, .slice lb.A b.length lb.c, .func (.func 79) #[] #[]] w fun e w' => e = .returned (.bool (sames a b)) ∧ Below w.heap.size w w' := by
 have ha63 : (a.length : Int) ≤ 9223372036854775807 := by have h1 := ha.1.2.1; have h2 := ha.1.2.2.1; omega
 obtain ⟨n, hn⟩ : ∃ n, n = a.length := ⟨_, rfl⟩
 obtain ⟨n', hn'⟩ : ∃ n, n = b.length := ⟨_, rfl⟩
 rw [← hn] at ha63 ⊢
 rw [← hn']
 by_cases hl : n = n'
 ·subst hl
  replace hn := Lib.hid hn
  replace hn' := Lib.hid hn'
  obtain ⟨R, hR⟩ : ∃ R, R = sames a b := ⟨_, rfl⟩
  rw [← hR]
  replace hR := Lib.hid hR
  go_enter Tryz.func106, Tryz.ntmps106
  go_wp2
  go_loopw [17] (fun i wr => ∃ k : Nat, i = .int .i64 k ∧ k ≤ n ∧ Below w.heap.size w wr ∧ ∀ (i : Nat) x y, i < k → a[i]? = some x → b[i]? = some y → x.same y = true) (fun i _ => n - (intOf i).toNat)
  case atStart => exact ⟨0, rfl, Nat.zero_le _, Below.refl _ _, fun i x y h => absurd h (by omega)⟩
  case round =>
   obtain ⟨k, rfl, hk, hB, hsm⟩ := hrel
   have k0 : 0 ≤ (k : Int) := by omega
   by_cases hlt : k < n
   ·have hx : a[k]? = some (a[k]'(by have := hn.out; omega)) := List.getElem?_eq_getElem (by have := hn.out; omega)
    generalize a[k]'(by have := hn.out; omega) = x at hx
    have hy : b[k]? = some (b[k]'(by have := hn'.out; omega)) := List.getElem?_eq_getElem (by have := hn'.out; omega)
    generalize b[k]'(by have := hn'.out; omega) = y at hy
    obtain ⟨ad, hA, _, _, hxok, hcx⟩ := (ha.all (keeps_below hB)).at hx
    obtain ⟨bd, hA', _, _, hyok, hcy⟩ := (hb.all (keeps_below hB)).at hy
    have hcall := fun w2 (hB2 : Below wr.heap.size wr w2) => hall x (List.mem_of_getElem? hx) y w2 (hxok.below hB2) (hyok.below hB2)
    have hres := sames_false hx hy
    obtain ⟨r, hr⟩ : ∃ r, r = x.same y := ⟨_, rfl⟩
    rw [← hr] at hcall hres
    replace hr := Lib.hid hr
    replace hx := Lib.hid hx
    replace hy := Lib.hid hy
    replace hsm := Lib.hid hsm
    replace hres := Lib.hid hres
    obtain ⟨⟨xk, xo, xv, xw, xn⟩, ⟨xA, xc⟩, xs⟩ := x
    obtain ⟨⟨yk, yo, yv, yw, yn⟩, ⟨yA, yc⟩, ys⟩ := y
    obtain ⟨c0, c1, c2, c3, c4, c5⟩ := CellsAt.c6 hcx
    obtain ⟨d0, d1, d2, d3, d4, d5⟩ := CellsAt.c6 hcy
    simp only [aggX, Ex.cells, eT] at c0 c1 c2 c3 c4 c5 d0 d1 d2 d3 d4 d5 hcall
    obtain ⟨lA, lc⟩ := la
    obtain ⟨lB, lc'⟩ := lb
    dsimp only at hA hA'
    subst hA
    subst hA'
    have k1 : (k : Int) < (n : Int) := by omega
    have hab := cell_lt c0
    have hbb := cell_lt d0
    have hB4 : Below wr.heap.size wr ((wr.alloc (.cells #[.int .u8 xk, .int .u8 xo, .int .u32 xv, .int .i64 xw, .string xn, .slice xA xs.length xc] 30)).alloc (.cells #[.int .u8 yk, .int .u8 yo, .int .u32 yv, .int .i64 yw, .string yn, .slice yA ys.length yc] 30)) := ((Below.refl _ _).alloc (Nat.le_refl _) _).alloc (by simp) _
    have hcall := Lib.hid (hcall _ hB4)
    go_wp2_with (go_at_call 79; with_reducible refine hcall.out.mono ?_; rintro e w5 ⟨rfl, hB5⟩; cases r)
    ·go_ret
     refine ⟨ret_b ((hR.out.trans (hres.out (by simp))).symm), hB.trans ((hB4.trans (hB5.mono hB4.size)).mono hB.size)⟩
    ·go_roundw
     case rel =>
      refine ⟨k + 1, by go_num, by omega, hB.trans ((hB4.trans (hB5.mono hB4.size)).mono hB.size), fun i x y hi hx' hy' => ?_⟩
      by_cases hik : i = k
      ·subst hik
       rw [hx.out] at hx'
       rw [hy.out] at hy'
       cases hx'
       cases hy'
       exact hr.out.symm
      ·exact hsm.out i x y (by omega) hx' hy'
     case measure => simp [intOf]; omega
   ·obtain rfl : k = n := by omega
    have hRt : R = true := by
     rw [hR.out]
     refine (sames_at a b (by rw [← hn.out, ← hn'.out])).2 fun i x y hx hy => hsm i x y ?_ hx hy
     have := (List.getElem?_eq_some_iff.1 hx).1
     have := hn.out
     omega
    replace hRt := Lib.hid hRt
    replace hsm := Lib.hid hsm
    go_wp2
    go_ret
    exact ⟨ret_b hRt.out.symm, hB⟩
 ·have hRf : sames a b = false := by
   cases hs : sames a b with
   | false => rfl
   | true => exact absurd (by rw [hn, hn']; exact sames_len hs) hl
  rw [hRf]
  have h1 : ((n : Int) == (n' : Int)) = false := by simp; omega
  have h2 : ((n : Int) != (n' : Int)) = true := by simp; omega
  have hl' := Lib.hid hl
  clear hl
  replace hn := Lib.hid hn
  replace hn' := Lib.hid hn'
  replace hRf := Lib.hid hRf
  go_enter Tryz.func106, Tryz.ntmps106
  go_wp2
  go_ret
  exact ⟨rfl, Below.refl _ _⟩
set_option maxRecDepth 100000 in
theorem sameE : ∀ a : Ex Loc, SameE a := by
 intro a
 induction a using Ex.ind with
 | h ha la sa ih =>
 intro b w hoa hob
 obtain ⟨hb, lb, sb⟩ := b
 have hB : Below w.heap.size w ((w.alloc (.cells ((Ex.mk ha la sa).cells eT).toArray 30)).alloc (.cells ((Ex.mk hb lb sb).cells eT).toArray 30)) := ((Below.refl _ _).alloc (Nat.le_refl _) _).alloc (by simp) _
 have hcall := equalE la lb sa sb ih _ (Lex.ok.all (keeps_below hB) hoa) (Lex.ok.all (keeps_below hB) hob)
 have hsame : (Ex.mk ha la sa).same (Ex.mk hb lb sb) = (ha.eq hb && sames sa sb) := rfl
 rw [hsame]
 simp only [Hd.eq]
 obtain ⟨R, hR⟩ : ∃ R, R = sames sa sb := ⟨_, rfl⟩
 rw [← hR] at hcall ⊢
 replace hR := Lib.hid hR
 obtain ⟨xk, xo, xv, xw, xn⟩ := ha
 obtain ⟨yk, yo, yv, yw, yn⟩ := hb
 obtain ⟨lA, lc⟩ := la
 obtain ⟨lB, lc'⟩ := lb
 simp only [aggX, Ex.cells, eT] at hcall hB ⊢
 replace hcall := Lib.hid hcall
 obtain ⟨b1, e1⟩ : ∃ b1, (xk == yk) = b1 := ⟨_, rfl⟩
 obtain ⟨b2, e2⟩ : ∃ b2, (xo == yo) = b2 := ⟨_, rfl⟩
 obtain ⟨b3, e3⟩ : ∃ b3, (xv == yv) = b3 := ⟨_, rfl⟩
 obtain ⟨b4, e4⟩ : ∃ b4, (xw == yw) = b4 := ⟨_, rfl⟩
 obtain ⟨b5, e5⟩ : ∃ b5, (xn.toList == yn.toList) = b5 := ⟨_, rfl⟩
 rw [e1, e2, e3, e4, e5]
 cases b1
 ·simp only [Bool.false_and, Bool.and_false]
  go_enter Tryz.func79, Tryz.ntmps79
  go_wp2
  go_ret
  exact ⟨rfl, hB⟩
 cases b2
 ·simp only [Bool.false_and, Bool.and_false]
  go_enter Tryz.func79, Tryz.ntmps79
  go_wp2
  go_ret
  exact ⟨rfl, hB⟩
 cases b3
 ·simp only [Bool.false_and, Bool.and_false]
  go_enter Tryz.func79, Tryz.ntmps79
  go_wp2
  go_ret
  exact ⟨rfl, hB⟩
 cases b4
 ·simp only [Bool.false_and, Bool.and_false]
  go_enter Tryz.func79, Tryz.ntmps79
  go_wp2
  go_ret
  exact ⟨rfl, hB⟩
 cases b5
 ·simp only [Bool.false_and, Bool.and_false]
  go_enter Tryz.func79, Tryz.ntmps79
  go_wp2
  go_ret
  exact ⟨rfl, hB⟩
 simp only [Bool.true_and]
 go_enter Tryz.func79, Tryz.ntmps79
 go_wp2_with (go_at_call 106; with_reducible refine hcall.out.mono ?_; rintro e w5 ⟨rfl, hB5⟩)
 go_ret
 exact ⟨rfl, hB.trans (hB5.mono hB.size)⟩
def SameS (a : St Loc) : Prop := ∀ (b : St Loc) (w : World), a.ok eT w → b.ok eT w → Calls Tryz.prog 87 #[aggS a, aggS b] w fun e w' => e = .returned (.bool (a.same b)) ∧ Below w.heap.size w w'
theorem sameS_false {α β : Type} {a : List (St α)} {b : List (St β)} {k : Nat} {x : St α} {y : St β} (hx : a[k]? = some x) (hy : b[k]? = some y) (h : x.same y = false) : sameS a b = false := by
 cases hs : sameS a b with
 | false => rfl
 | true => rw [(sameS_at a b (sameS_len hs)).1 hs k x y hx hy] at h; cases h
set_option maxRecDepth 100000 in
theorem equalS (la lb : Loc) (a b : List (St Loc)) (hall : ∀ x ∈ a, SameS x) (w : World) (ha : Lst.ok eT w la a) (hb : Lst.ok eT w lb b) :
  Calls Tryz.prog 86 #[.slice la.A a.length la.c, .slice lb.A b.length lb.c, .func (.func 87) #[] #[]] w fun e w' => e = .returned (.bool (sameS a b)) ∧ Below w.heap.size w w' := by
 have ha63 : (a.length : Int) ≤ 9223372036854775807 := by have h1 := ha.1.2.1; have h2 := ha.1.2.2.1; omega
 obtain ⟨n, hn⟩ : ∃ n, n = a.length := ⟨_, rfl⟩
 obtain ⟨n', hn'⟩ : ∃ n, n = b.length := ⟨_, rfl⟩
 rw [← hn] at ha63 ⊢
 rw [← hn']
 by_cases hl : n = n'
 ·subst hl
  replace hn := Lib.hid hn
  replace hn' := Lib.hid hn'
  obtain ⟨R, hR⟩ : ∃ R, R = sameS a b := ⟨_, rfl⟩
  rw [← hR]
  replace hR := Lib.hid hR
  go_enter Tryz.func86, Tryz.ntmps86
  go_wp2
  go_loopw [17] (fun i wr => ∃ k : Nat, i = .int .i64 k ∧ k ≤ n ∧ Below w.heap.size w wr ∧ ∀ (i : Nat) x y, i < k → a[i]? = some x → b[i]? = some y → x.same y = true) (fun i _ => n - (intOf i).toNat)
  case atStart => exact ⟨0, rfl, Nat.zero_le _, Below.refl _ _, fun i x y h => absurd h (by omega)⟩
  case round =>
   obtain ⟨k, rfl, hk, hB, hsm⟩ := hrel
   have k0 : 0 ≤ (k : Int) := by omega
   by_cases hlt : k < n
   ·have hx : a[k]? = some (a[k]'(by have := hn.out; omega)) := List.getElem?_eq_getElem (by have := hn.out; omega)
    generalize a[k]'(by have := hn.out; omega) = x at hx
    have hy : b[k]? = some (b[k]'(by have := hn'.out; omega)) := List.getElem?_eq_getElem (by have := hn'.out; omega)
    generalize b[k]'(by have := hn'.out; omega) = y at hy
    obtain ⟨ad, hA, _, _, hxok, hcx⟩ := (ha.all (keeps_below hB)).at hx
    obtain ⟨bd, hA', _, _, hyok, hcy⟩ := (hb.all (keeps_below hB)).at hy
    have hcall := fun w2 (hB2 : Below wr.heap.size wr w2) => hall x (List.mem_of_getElem? hx) y w2 (hxok.below hB2) (hyok.below hB2)
    have hres := sameS_false hx hy
    obtain ⟨r, hr⟩ : ∃ r, r = x.same y := ⟨_, rfl⟩
    rw [← hr] at hcall hres
    replace hr := Lib.hid hr
    replace hx := Lib.hid hx
    replace hy := Lib.hid hy
    replace hsm := Lib.hid hsm
    replace hres := Lib.hid hres
    obtain ⟨⟨xk, xn, xb⟩, ⟨xA, xc⟩, ⟨x1, x2⟩, ⟨x3, x4⟩, xx, xt, xe⟩ := x
    obtain ⟨⟨yk, yn, yb⟩, ⟨yA, yc⟩, ⟨y1, y2⟩, ⟨y3, y4⟩, yx, yt, ye⟩ := y
    obtain ⟨c0, c1, c2, c3, c4, c5⟩ := CellsAt.c6 hcx
    obtain ⟨d0, d1, d2, d3, d4, d5⟩ := CellsAt.c6 hcy
    simp only [aggS, St.cells, eT] at c0 c1 c2 c3 c4 c5 d0 d1 d2 d3 d4 d5 hcall
    obtain ⟨lA, lc⟩ := la
    obtain ⟨lB, lc'⟩ := lb
    dsimp only at hA hA'
    subst hA
    subst hA'
    have k1 : (k : Int) < (n : Int) := by omega
    have hab := cell_lt c0
    have hbb := cell_lt d0
    have hB4 : Below wr.heap.size wr ((wr.alloc (.cells #[.int .u8 xk, .string xn, .slice xA xx.length xc, .int .i64 xb, .slice x1 xt.length x2, .slice x3 xe.length x4] 40)).alloc (.cells #[.int .u8 yk, .string yn, .slice yA yx.length yc, .int .i64 yb, .slice y1 yt.length y2, .slice y3 ye.length y4] 40)) := ((Below.refl _ _).alloc (Nat.le_refl _) _).alloc (by simp) _
    have hcall := Lib.hid (hcall _ hB4)
    go_wp2_with (go_at_call 87; with_reducible refine hcall.out.mono ?_; rintro e w5 ⟨rfl, hB5⟩; cases r)
    ·go_ret
     refine ⟨ret_b ((hR.out.trans (hres.out (by simp))).symm), hB.trans ((hB4.trans (hB5.mono hB4.size)).mono hB.size)⟩
    ·go_roundw
     case rel =>
      refine ⟨k + 1, by go_num, by omega, hB.trans ((hB4.trans (hB5.mono hB4.size)).mono hB.size), fun i x y hi hx' hy' => ?_⟩
      by_cases hik : i = k
      ·subst hik
       rw [hx.out] at hx'
       rw [hy.out] at hy'
       cases hx'
       cases hy'
       exact hr.out.symm
      ·exact hsm.out i x y (by omega) hx' hy'
     case measure => simp [intOf]; omega
   ·obtain rfl : k = n := by omega
    have hRt : R = true := by
     rw [hR.out]
     refine (sameS_at a b (by rw [← hn.out, ← hn'.out])).2 fun i x y hx hy => hsm i x y ?_ hx hy
     have := (List.getElem?_eq_some_iff.1 hx).1
     have := hn.out
     omega
    replace hRt := Lib.hid hRt
    replace hsm := Lib.hid hsm
    go_wp2
    go_ret
    exact ⟨ret_b hRt.out.symm, hB⟩
 ·have hRf : sameS a b = false := by
   cases hs : sameS a b with
   | false => rfl
   | true => exact absurd (by rw [hn, hn']; exact sameS_len hs) hl
  rw [hRf]
  have h1 : ((n : Int) == (n' : Int)) = false := by simp; omega
  have h2 : ((n : Int) != (n' : Int)) = true := by simp; omega
  have hl' := Lib.hid hl
  clear hl
  replace hn := Lib.hid hn
  replace hn' := Lib.hid hn'
  replace hRf := Lib.hid hRf
  go_enter Tryz.func86, Tryz.ntmps86
  go_wp2
  go_ret
  exact ⟨rfl, Below.refl _ _⟩
set_option maxRecDepth 100000 in
theorem sameS_ok : ∀ a : St Loc, SameS a := by
 intro a
 induction a using St.ind with
 | h ha la lt le xa ta ea iht ihe =>
 intro b w hoa hob
 obtain ⟨hb, lb, lt', le', xb, tb, eb⟩ := b
 have hB : Below w.heap.size w ((w.alloc (.cells ((St.mk ha la lt le xa ta ea).cells eT).toArray 40)).alloc (.cells ((St.mk hb lb lt' le' xb tb eb).cells eT).toArray 40)) := ((Below.refl _ _).alloc (Nat.le_refl _) _).alloc (by simp) _
 have hc1 := fun w2 (hB2 : Below w.heap.size w w2) => equalE la lb xa xb (fun x _ => sameE x) w2 (Lex.ok.all (keeps_below hB2) hoa.parts.1) (Lex.ok.all (keeps_below hB2) hob.parts.1)
 have hc2 := fun w2 (hB2 : Below w.heap.size w w2) => equalS lt lt' ta tb iht w2 (Lst.ok.all (keeps_below hB2) hoa.parts.2.1) (Lst.ok.all (keeps_below hB2) hob.parts.2.1)
 have hc3 := fun w2 (hB2 : Below w.heap.size w w2) => equalS le le' ea eb ihe w2 (Lst.ok.all (keeps_below hB2) hoa.parts.2.2) (Lst.ok.all (keeps_below hB2) hob.parts.2.2)
 have hsame : (St.mk ha la lt le xa ta ea).same (St.mk hb lb lt' le' xb tb eb) = (ha.eq hb && (sames xa xb && (sameS ta tb && sameS ea eb))) := rfl
 rw [hsame]
 simp only [SHd.eq]
 obtain ⟨R1, hR1⟩ : ∃ R, R = sames xa xb := ⟨_, rfl⟩
 obtain ⟨R2, hR2⟩ : ∃ R, R = sameS ta tb := ⟨_, rfl⟩
 obtain ⟨R3, hR3⟩ : ∃ R, R = sameS ea eb := ⟨_, rfl⟩
 rw [← hR1] at hc1 ⊢
 rw [← hR2] at hc2 ⊢
 rw [← hR3] at hc3 ⊢
 replace hR1 := Lib.hid hR1
 replace hR2 := Lib.hid hR2
 replace hR3 := Lib.hid hR3
 obtain ⟨xk, xn, xd⟩ := ha
 obtain ⟨yk, yn, yd⟩ := hb
 obtain ⟨lA, lc⟩ := la
 obtain ⟨lB, lc'⟩ := lb
 obtain ⟨a1, a2⟩ := lt
 obtain ⟨b1, b2⟩ := lt'
 obtain ⟨a3, a4⟩ := le
 obtain ⟨b3, b4⟩ := le'
 simp only [aggS, St.cells, eT] at hc1 hc2 hc3 hB ⊢
 replace hc1 := Lib.hid hc1
 replace hc2 := Lib.hid hc2
 replace hc3 := Lib.hid hc3
 have hs0 := (Blk.new w 40 #[.int .u8 xk, .string xn, .slice lA xa.length lc, .int .i64 xd, .slice a1 ta.length a2, .slice a3 ea.length a4]).alloc (.cells #[.int .u8 yk, .string yn, .slice lB xb.length lc', .int .i64 yd, .slice b1 tb.length b2, .slice b3 eb.length b4] 40)
 have hs1 := Blk.new (w.alloc (.cells #[.int .u8 xk, .string xn, .slice lA xa.length lc, .int .i64 xd, .slice a1 ta.length a2, .slice a3 ea.length a4] 40)) 40 #[.int .u8 yk, .string yn, .slice lB xb.length lc', .int .i64 yd, .slice b1 tb.length b2, .slice b3 eb.length b4]
 rw [World.size_alloc] at hs1
 obtain ⟨q1, e1⟩ : ∃ q, (xk == yk) = q := ⟨_, rfl⟩
 obtain ⟨q2, e2⟩ : ∃ q, (xn.toList == yn.toList) = q := ⟨_, rfl⟩
 obtain ⟨q3, e3⟩ : ∃ q, (xd == yd) = q := ⟨_, rfl⟩
 rw [e1, e2, e3]
 cases q1
 ·simp only [Bool.false_and, Bool.and_false]
  go_enter Tryz.func87, Tryz.ntmps87
  go_wp2
  go_ret
  exact ⟨rfl, hB⟩
 cases q2
 ·simp only [Bool.false_and, Bool.and_false]
  go_enter Tryz.func87, Tryz.ntmps87
  go_wp2
  go_ret
  exact ⟨rfl, hB⟩
 cases q3
 ·simp only [Bool.false_and, Bool.and_false]
  go_enter Tryz.func87, Tryz.ntmps87
  go_wp2
  go_ret
  exact ⟨rfl, hB⟩
 simp only [Bool.true_and]
 go_enter Tryz.func87, Tryz.ntmps87
 go_wp2_with fail
 have hl0 := hs0.lt
 have hl1 := hs1.lt
 generalize (w.alloc (.cells #[.int .u8 xk, .string xn, .slice lA xa.length lc, .int .i64 xd, .slice a1 ta.length a2, .slice a3 ea.length a4] 40)).alloc (.cells #[.int .u8 yk, .string yn, .slice lB xb.length lc', .int .i64 yd, .slice b1 tb.length b2, .slice b3 eb.length b4] 40) = W0 at *
 refine (hc1.out _ hB).mono ?_
 rintro e w1 ⟨rfl, hB1⟩
 cases R1
 ·go_wp2
  go_ret
  exact ⟨rfl, hB.trans (hB1.mono hB.size)⟩
 ·have r4 := (hs0.below hB1 hl0).cell 4
  have s4 := (hs1.below hB1 hl1).cell 4
  simp only [List.getElem?_toArray, List.getElem?_cons_zero, List.getElem?_cons_succ] at r4 s4
  have hl2 : w.heap.size < w1.heap.size := Nat.lt_of_lt_of_le hl0 hB1.size
  have hl3 : w.heap.size + 1 < w1.heap.size := Nat.lt_of_lt_of_le hl1 hB1.size
  go_wp2_with fail
  have hB01 := hB.trans (hB1.mono hB.size)
  refine (hc2.out _ hB01).mono ?_
  rintro e w2 ⟨rfl, hB2⟩
  cases R2
  ·go_wp2
   go_ret
   exact ⟨rfl, hB01.trans (hB2.mono hB01.size)⟩
  ·have hBs := hB1.trans (hB2.mono hB1.size)
   have r5 := (hs0.below hBs hl0).cell 5
   have s5 := (hs1.below hBs hl1).cell 5
   simp only [List.getElem?_toArray, List.getElem?_cons_zero, List.getElem?_cons_succ] at r5 s5
   have hl4 : w.heap.size < w2.heap.size := Nat.lt_of_lt_of_le hl2 hB2.size
   have hl5 : w.heap.size + 1 < w2.heap.size := Nat.lt_of_lt_of_le hl3 hB2.size
   clear r4 s4
   go_wp2_with fail
   have hB02 := hB01.trans (hB2.mono hB01.size)
   refine (hc3.out _ hB02).mono ?_
   rintro e w3 ⟨rfl, hB3⟩
   go_wp2
   go_ret
   exact ⟨rfl, hB02.trans (hB3.mono hB02.size)⟩
end Go.Proofs.YtnldbplphgfpeaaGreat
