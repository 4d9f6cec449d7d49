/- Lemmas for salvor/salvorlaw29.TreeSmall (part 19); no condition. -/
import Derived.Deep.DeepCutAuto
import Derived.Deep.RegionLaw
import Derived.Test.YtnldbplphgfpeaaGreatP16
import Derived.Test.YtnldbplphgfpeaaGreatP14
namespace Go.Proofs.YtnldbplphgfpeaaGreat
open Go Go.RowKit Go.Shelf
set_option linter.unusedVariables false
set_option linter.unusedSimpArgs false
structure Acc (D : World → Prop) (bs : List Nat) (W : World) : Prop where
 k : Keep D bs
 h : D W
section
variable {D X : World → Prop} {bs cs : List Nat} {W W' : World}
theorem Acc.new (h : Acc D bs W) (hb : Below W.heap.size W W') : Acc D bs W' := ⟨h.k, h.k.new h.h hb⟩
theorem Acc.only {g : Nat} (h : Acc D bs W) (ho : Only [g] W W') (hg : g ∉ bs) : Acc D bs W' := ⟨h.k, h.k.only h.h ho fun b hb hm => hg (by rw [← List.mem_singleton.1 hm]; exact hb)⟩
theorem Acc.add (h : Acc D bs W) (k : Keep X cs) (hX : X W) : Acc (fun W => D W ∧ X W) (bs ++ cs) W := ⟨h.k.and k, h.h, hX⟩
theorem Acc.lt (h : Acc D bs W) : ∀ b ∈ bs, b < W.heap.size := h.k.lt h.h
theorem Acc.grown {row : Option Nat} (h : Acc D bs W) (hg : W.grownBy W' row) (hr : ∀ b, row = some b → b ∉ bs) : Acc D bs W' := ⟨h.k, h.k.same h.h fun b hb => hg.block b (h.lt b hb) (fun e => hr b e.symm hb)⟩
end
structure RowB {α : Type} (own : World → α → Prop) (fp : α → List Nat) (cf : α → List Value) (base : Nat) (e : TypeId) (sz : Nat) (l : Loc) (xs : List α) (W : World) : Prop where
 row : W.ownsRow base e sz (.slice l.A xs.length l.c) xs.length (xs.flatMap cf)
 own : ∀ x ∈ xs, own W x
 ap : ∀ b ∈ l.fp, ∀ x ∈ xs, b ∉ fp x
section
variable {α : Type} {own : World → α → Prop} {fp : α → List Nat} {cf : α → List Value} {base : Nat} {e : TypeId} {sz : Nat} {l : Loc} {xs : List α} {W W' : World}
theorem RowB.new (h : RowB own fp cf base e sz l xs W) (kp : ∀ x, Keep (fun W => own W x) (fp x)) (hb : Below W.heap.size W W') : RowB own fp cf base e sz l xs W' :=
 ⟨own_only h.row (only_of_below [] hb) (by simp), fun x hx => (kp x).new (h.own x hx) hb, h.ap⟩
theorem RowB.ge (h : RowB own fp cf base e sz l xs W) : ∀ b ∈ l.fp, base ≤ b ∧ b < W.heap.size := fun b hb => h.row.lt b ((own_fp l xs.length b).1 hb)
theorem RowB.only {g : Nat} (h : RowB own fp cf base e sz l xs W) (kp : ∀ x, Keep (fun W => own W x) (fp x)) (ho : Only [g] W W') (hg : g < base) (hf : ∀ x ∈ xs, g ∉ fp x) : RowB own fp cf base e sz l xs W' :=
 ⟨own_only h.row ho (fun b hb hm => by have := (h.row.lt b hb).1; simp at hm; omega), fun x hx => (kp x).only (h.own x hx) ho fun b hb hm => hf x hx (by rw [← List.mem_singleton.1 hm]; exact hb), h.ap⟩
theorem RowB.nil (own : World → α → Prop) (fp : α → List Nat) (cf : α → List Value) (base : Nat) (e : TypeId) (sz : Nat) (W : World) : RowB own fp cf base e sz ⟨none, 0⟩ [] W :=
 ⟨World.ownsRow_nil _ _ _ _, (by intro x hx; cases hx), by intro b hb; cases hb⟩
theorem RowB.append {k : Nat} {A : Option Addr} {c : Nat} {x : α} {v : Value} (hk : xs.length = k) (ho : RowB own fp cf base e sz ⟨A, c⟩ xs W) (kp : ∀ x, Keep (fun W => own W x) (fp x)) (hx : own W x) (hdj : ∀ b ∈ (Loc.mk A c).fp, b ∉ fp x)
  (hrow : W'.ownsRow base e sz v (k + 1) (xs.flatMap cf ++ [x].flatMap cf)) (hg : W.grownBy W' (Value.slice A k c).ownBlock) (hb : v.ownBlock = (Value.slice A k c).ownBlock ∨ v.ownBlock = some W.heap.size) :
  ∃ A' c', v = .slice A' (k + 1) c' ∧ RowB own fp cf base e sz ⟨A', c'⟩ (xs ++ [x]) W' := by
 obtain ⟨A', c', rfl⟩ := own_form hrow
 have hof : ∀ b, b ∈ (Loc.mk A c).fp ↔ (Value.slice A k c).ownBlock = some b := fun b => own_fp ⟨A, c⟩ k b
 have hof' : ∀ b, b ∈ (Loc.mk A' c').fp ↔ (Value.slice A' (k + 1) c').ownBlock = some b := fun b => own_fp ⟨A', c'⟩ _ b
 have hall : ∀ y ∈ xs ++ [x], own W y ∧ ∀ b ∈ fp y, some b ≠ (Value.slice A k c).ownBlock := fun y hy => by
  rcases List.mem_append.1 hy with hy | hy
  ·exact ⟨ho.own y hy, fun b hb' e => ho.ap b ((hof b).2 e.symm) y hy hb'⟩
  ·rw [List.mem_singleton] at hy
   subst hy
   exact ⟨hx, fun b hb' e => hdj b ((hof b).2 e.symm) hb'⟩
 refine ⟨A', c', rfl, ⟨?_, fun y hy => (kp y).same (hall y hy).1 fun b hm => hg.block b ((kp y).lt (hall y hy).1 b hm) ((hall y hy).2 b hm), fun b hm y hy hf => ?_⟩⟩
 ·rw [List.length_append, List.flatMap_append, hk]
  exact hrow
 ·have h1 := (hof' b).1 hm
  rcases hb with hb | hb
  ·rw [hb] at h1
   exact (hall y hy).2 b hf h1.symm
  ·rw [hb] at h1
   cases h1
   have := (kp y).lt (hall y hy).1 _ hf
   omega
end
theorem RowB.keep_ {α : Type} {own : World → α → Prop} {fp : α → List Nat} (cf : α → List Value) (base : Nat) (e : TypeId) (sz : Nat) (l : Loc) (xs : List α) (kp : ∀ x, Keep (fun W => own W x) (fp x)) : Keep (fun W => RowB own fp cf base e sz l xs W) (l.fp ++ xs.flatMap fp) :=
 ⟨fun h hb => ⟨(keep_row base e sz xs.length l (xs.flatMap cf)).same h.row fun b hm => hb b (List.mem_append_left _ hm), fun x hx => (kp x).same (h.own x hx) fun b hm => hb b (List.mem_append_right _ (List.mem_flatMap.2 ⟨x, hx, hm⟩)), h.ap⟩,
  fun h b hb => by
   rcases List.mem_append.1 hb with hb | hb
   ·exact (h.ge b hb).2
   ·obtain ⟨x, hx, hm⟩ := List.mem_flatMap.1 hb
    exact (kp x).lt (h.own x hx) b hm⟩
def ownIR (base : Nat) (W : World) (x : In Loc) : Prop := x.val.own eR W base
def fpIR (x : In Loc) : List Nat := x.val.fp
theorem keepIR (base : Nat) (x : In Loc) : Keep (fun W => ownIR base W x) (fpIR x) := keep_ex eR base x.val
def ownPR (base : Nat) (W : World) (x : Pr Loc) : Prop := W.ownsRow base 139 3 (.slice x.lp.A x.ps.length x.lp.c) x.ps.length (cellsD x.ps) ∧ Lst.own eR W base x.lb x.body
def fpPR (x : Pr Loc) : List Nat := x.lp.fp ++ Lst.fp x.lb x.body
theorem keepPR (base : Nat) (x : Pr Loc) : Keep (fun W => ownPR base W x) (fpPR x) := (keep_row base _ 3 _ x.lp _).and (keep_lst eR base x.lb x.body)
theorem infoRI : (Tryz.prog.info? 125).map (fun i => (i.zero, i.size, i.bytes)) = some (some (.agg #[.int .i64 0, .int .i64 0, .int .i64 0, .int .i64 0, .int .i64 0, .string ⟨#[]⟩, .slice none 0 0]), 7, 80) := by kernel_rfl
theorem infoRP : (Tryz.prog.info? 127).map (fun i => (i.zero, i.size, i.bytes)) = some (some (.agg #[.string ⟨#[]⟩, .slice none 0 0, .slice none 0 0]), 3, 64) := by kernel_rfl
structure PBeg (W : World) (lo : Nat) (P : Pg Loc) : Prop where
 ins : W.ownsRow lo 139 3 (.slice P.li.A P.ins.length P.li.c) P.ins.length (cellsD P.ins)
 gh : W.ownsRow lo 139 3 (.slice P.lg.A P.gh.length P.lg.c) P.gh.length (cellsD P.gh)
 va : W.ownsRow lo 139 3 (.slice P.lv.A P.va.length P.lv.c) P.va.length (cellsD P.va)
 ar : W.ownsRow lo 139 3 (.slice P.la.A P.ar.length P.la.c) P.ar.length (cellsD P.ar)
 req : P.req.own eR W lo
 work : Lst.own eR W lo P.lw P.work
 recov : Lst.own eR W lo P.lr P.recov
 inv : P.inv.own eR W lo
theorem RowB.fp_ge {α : Type} {own : World → α → Prop} {fp : α → List Nat} {cf : α → List Value} {base n : Nat} {e : TypeId} {sz : Nat} {l : Loc} {xs : List α} {W : World} (h : RowB own fp cf base e sz l xs W) : ∀ b ∈ l.blk n, base ≤ b := fun b hb => (h.ge b (blk_fp hb)).1
theorem PBeg.blks_ge {W : World} {lo lo1 lo2 : Nat} {P : Pg Loc} (h : PBeg W lo P) (h1 : lo ≤ lo1) (h2 : lo ≤ lo2) (hI : RowB (ownIR lo1) fpIR (In.cells eR) lo1 125 7 P.ln P.inits W) (hP : RowB (ownPR lo2) fpPR Pr.cells lo2 127 3 P.lpr P.procs W) : ∀ b ∈ P.blks, lo ≤ b := fun b hb => by
 simp only [Pg.blks, List.mem_append] at hb
 rcases hb with hb | hb | hb | hb | hb | hb | hb | hb | hb | hb
 ·exact (own_ge h.ins b (blk_fp hb)).1
 ·exact (own_ge h.gh b (blk_fp hb)).1
 ·exact (own_ge h.va b (blk_fp hb)).1
 ·exact (own_ge h.ar b (blk_fp hb)).1
 ·exact (h.req.ge b (Ex.blks_fp hb)).1
 ·simp only [Lin.blks, List.mem_append] at hb
  rcases hb with hb | hb
  ·have := hI.fp_ge b hb; omega
  ·obtain ⟨x, hx, hm⟩ := List.mem_flatMap.1 hb
   have := ((hI.own x hx).ge b (Ex.blks_fp hm)).1; omega
 ·simp only [Lpr.blks, List.mem_append] at hb
  rcases hb with hb | hb
  ·have := hP.fp_ge b hb; omega
  ·obtain ⟨x, hx, hm⟩ := List.mem_flatMap.1 hb
   simp only [Pr.blks, List.mem_append] at hm
   rcases hm with hm | hm | hm
   ·have := (own_ge (l := x.lp) (hP.own x hx).1 b (blk_fp hm)).1; omega
   ·have := ((hP.own x hx).2.ge b (List.mem_append_left _ (blk_fp hm))).1; omega
   ·have := ((hP.own x hx).2.ge b (List.mem_append_right _ (blkS_fp hm))).1; omega
 ·rcases hb with hb | hb
  ·exact (h.work.ge b (List.mem_append_left _ (blk_fp hb))).1
  ·exact (h.work.ge b (List.mem_append_right _ (blkS_fp hb))).1
 ·rcases hb with hb | hb
  ·exact (h.recov.ge b (List.mem_append_left _ (blk_fp hb))).1
  ·exact (h.recov.ge b (List.mem_append_right _ (blkS_fp hb))).1
 ·exact (h.inv.ge b (Ex.blks_fp hb)).1
theorem Pg.ok.lt {E : Enc} {W : World} {p : Pg Loc} (h : p.ok E W) : ∀ b ∈ p.blks, b < W.heap.size := fun b hb => by
 simp only [Pg.blks, List.mem_append] at hb
 rcases hb with hb | hb | hb | hb | hb | hb | hb | hb | hb | hb
 ·exact h.ins.lt (by omega) b hb
 ·exact h.gh.lt (by omega) b hb
 ·exact h.va.lt (by omega) b hb
 ·exact h.ar.lt (by omega) b hb
 ·exact h.req.lt b hb
 ·simp only [Lin.blks, List.mem_append] at hb
  rcases hb with hb | hb
  ·exact h.inits.1.lt (by omega) b hb
  ·obtain ⟨x, hx, hm⟩ := List.mem_flatMap.1 hb
   exact (h.inits.2 x hx).lt b hm
 ·simp only [Lpr.blks, List.mem_append] at hb
  rcases hb with hb | hb
  ·exact h.procs.1.lt (by omega) b hb
  ·obtain ⟨x, hx, hm⟩ := List.mem_flatMap.1 hb
   simp only [Pr.blks, List.mem_append] at hm
   rcases hm with hm | hm | hm
   ·exact (h.procs.2 x hx).1.lt (by omega) b hm
   ·exact (h.procs.2 x hx).2.1.lt (by omega) b hm
   ·exact okS_lt (h.procs.2 x hx).2.2 b hm
 ·rcases hb with hb | hb
  ·exact h.work.1.lt (by omega) b hb
  ·exact okS_lt h.work.2 b hb
 ·rcases hb with hb | hb
  ·exact h.recov.1.lt (by omega) b hb
  ·exact okS_lt h.recov.2 b hb
 ·exact h.inv.lt b hb
end Go.Proofs.YtnldbplphgfpeaaGreat
namespace Go.Proofs.YtnldbplphgfpeaaGreat
open Go Go.RowKit Go.Shelf
set_option linter.unusedVariables false
set_option linter.unusedSimpArgs false
set_option maxHeartbeats 8000000
theorem two_new (w : World) (t : Nat) (X Y : Array Value) : Blk ((w.alloc (.cells X t)).alloc (.cells Y t)).drew w.heap.size t X ∧ Blk ((w.alloc (.cells X t)).alloc (.cells Y t)).drew (w.heap.size + 1) t Y ∧ Below w.heap.size w ((w.alloc (.cells X t)).alloc (.cells Y t)).drew := by
 have h1 := (Blk.new w t X).alloc (.cells Y t)
 have h2 := Blk.new (w.alloc (.cells X t)) t Y
 rw [World.size_alloc] at h2
 exact ⟨h1, h2, (((Below.refl _ w).alloc (Nat.le_refl _) (.cells X t)).alloc (by simp) (.cells Y t)).drew⟩
set_option maxRecDepth 100000 in
theorem rsameS : ∀ (a : List (St Loc)) (la lb : Loc) (b : List (St Loc)) (w : World), Lst.ok eR w la a → Lst.ok eR w lb b →
  Calls Tryz.prog 65 #[.slice la.A a.length la.c, .slice lb.A b.length lb.c] w fun e w' => e = .returned (.bool (sameS a b)) ∧ Below w.heap.size w w' := by
 intro a
 induction a using St.list with
 | h a ih =>
 intro la lb b w ha hb
 have ha63 : (a.length : Int) ≤ 9223372036854775807 := by have h1 := ha.1.2.1; have h2 := ha.1.2.2.1; omega
 obtain ⟨n, hn⟩ : ∃ n, n = a.length := ⟨_, rfl⟩
 obtain ⟨n', hn'⟩ : ∃ n, n = b.length := ⟨_, rfl⟩
 rw [← hn] at ha63 ⊢
 rw [← hn']
 by_cases hl : n = n'
 ·subst hl
  replace hn := Lib.hid hn
  replace hn' := Lib.hid hn'
  replace ih := Lib.hid ih
  obtain ⟨R, hR⟩ : ∃ R, R = sameS a b := ⟨_, rfl⟩
  rw [← hR]
  replace hR := Lib.hid hR
  have ha' := Lib.hid ha
  have hb' := Lib.hid hb
  clear ha hb
  go_enter Tryz.func65, Tryz.ntmps65
  go_wp2
  go_loopw [5] (fun i wr => ∃ k : Nat, i = .int .i64 k ∧ k ≤ n ∧ Below w.heap.size w wr ∧ ∀ (i : Nat) x y, i < k → a[i]? = some x → b[i]? = some y → x.same y = true) (fun i _ => n - (intOf i).toNat)
  case atStart => exact ⟨0, rfl, Nat.zero_le _, Below.refl _ _, fun i x y h => absurd h (by omega)⟩
  case round =>
   obtain ⟨k, rfl, hk, hB, hsm⟩ := hrel
   have k0 : 0 ≤ (k : Int) := by omega
   by_cases hlt : k < n
   ·have hx : a[k]? = some (a[k]'(by have := hn.out; omega)) := List.getElem?_eq_getElem (by have := hn.out; omega)
    generalize a[k]'(by have := hn.out; omega) = x at hx
    have hy : b[k]? = some (b[k]'(by have := hn'.out; omega)) := List.getElem?_eq_getElem (by have := hn'.out; omega)
    generalize b[k]'(by have := hn'.out; omega) = y at hy
    obtain ⟨ad, hA, _, _, hxok, hcx⟩ := (ha'.out.all (keeps_below hB)).at hx
    obtain ⟨bd, hA', _, _, hyok, hcy⟩ := (hb'.out.all (keeps_below hB)).at hy
    have hmem := List.mem_of_getElem? hx
    have hi1 := (ih.out x hmem).1
    have hi2 := (ih.out x hmem).2
    have hres := sameS_false hx hy
    have hyes : x.same y = true → ∀ (i : Nat) u v, i < k + 1 → a[i]? = some u → b[i]? = some v → u.same v = true := fun hs i u v hi hu hv => by
     by_cases hik : i = k
     ·subst hik
      rw [hx] at hu
      rw [hy] at hv
      cases hu
      cases hv
      exact hs
     ·exact hsm i u v (by omega) hu hv
    obtain ⟨⟨xk, xn, xb⟩, ⟨xA, xc⟩, ⟨x1, x2⟩, ⟨x3, x4⟩, xx, xt, xe⟩ := x
    obtain ⟨⟨yk, yn, yb⟩, ⟨yA, yc⟩, ⟨y1, y2⟩, ⟨y3, y4⟩, yx, yt, ye⟩ := y
    have hsame : ∀ (u v : Loc), True := fun _ _ => trivial
    have hse : (St.mk ⟨xk, xn, xb⟩ (⟨xA, xc⟩ : Loc) ⟨x1, x2⟩ ⟨x3, x4⟩ xx xt xe).same (St.mk ⟨yk, yn, yb⟩ (⟨yA, yc⟩ : Loc) ⟨y1, y2⟩ ⟨y3, y4⟩ yx yt ye) = ((xk == yk && xn.toList == yn.toList && xb == yb) && (sames xx yx && (sameS xt yt && sameS xe ye))) := rfl
    rw [hse] at hres hyes
    clear hse hsame
    simp only [St.th, St.el] at hi1 hi2
    obtain ⟨c0, c1, c2, c3, c4, c5⟩ := CellsAt.c6 hcx
    obtain ⟨d0, d1, d2, d3, d4, d5⟩ := CellsAt.c6 hcy
    simp only [eR] at c0 c1 c2 c3 c4 c5 d0 d1 d2 d3 d4 d5
    obtain ⟨m, hmx⟩ : ∃ m, m = xx.length := ⟨_, rfl⟩
    obtain ⟨m', hmy⟩ : ∃ m, m = yx.length := ⟨_, rfl⟩
    rw [← hmx] at c2
    rw [← hmy] at d2
    obtain ⟨p1, p2, p3⟩ := hxok.parts
    obtain ⟨o1, o2, o3⟩ := hyok.parts
    have hm63 : (m : Int) ≤ 9223372036854775807 := by have h1 := p1.1.2.1; have h2 := p1.1.2.2.1; dsimp only at h1 h2; omega
    obtain ⟨lA, lc⟩ := la
    obtain ⟨lB, lc'⟩ := lb
    dsimp only at hA hA'
    subst hA
    subst hA'
    have k1 : (k : Int) < (n : Int) := by omega
    have hab := cell_lt c0
    have hbb := cell_lt d0
    obtain ⟨r1, hr1⟩ : ∃ r, r = sameS xt yt := ⟨_, rfl⟩
    obtain ⟨r2, hr2⟩ : ∃ r, r = sameS xe ye := ⟨_, rfl⟩
    obtain ⟨r3, hr3⟩ : ∃ r, r = sames xx yx := ⟨_, rfl⟩
    have hc1 := fun w2 (hB2 : Below wr.heap.size wr w2) => hi1 ⟨x1, x2⟩ ⟨y1, y2⟩ yt w2 (p2.all (keeps_below hB2)) (o2.all (keeps_below hB2))
    have hc2 := fun w2 (hB2 : Below wr.heap.size wr w2) => hi2 ⟨x3, x4⟩ ⟨y3, y4⟩ ye w2 (p3.all (keeps_below hB2)) (o3.all (keeps_below hB2))
    rw [← hr1] at hc1 hres hyes
    rw [← hr2] at hc2 hres hyes
    rw [← hr3] at hres hyes
    dsimp only at hc1 hc2
    obtain ⟨b1, e1⟩ : ∃ b1, (xk == yk) = b1 := ⟨_, rfl⟩
    obtain ⟨b2, e2⟩ : ∃ b2, (xn.toList == yn.toList) = b2 := ⟨_, rfl⟩
    obtain ⟨b3, e3⟩ : ∃ b3, (xb == yb) = b3 := ⟨_, rfl⟩
    obtain ⟨b4, e4⟩ : ∃ b4, ((m : Int) == (m' : Int)) = b4 := ⟨_, rfl⟩
    have hlen : b4 = false → r3 = false := fun h => by
     rw [h] at e4
     rw [hr3]
     cases hs : sames xx yx with
     | false => rfl
     | true =>
      have := sames_len hs
      simp at e4
      omega
    have hlen' : b4 = true → m = m' := fun h => by
     rw [h] at e4
     simp at e4
     omega
    have f1 := bne_of e1
    have f2 := bne_of e2
    have f3 := bne_of e3
    have f4 := bne_of e4
    rw [e1, e2, e3] at hres hyes
    have hW1 := (Below.refl _ wr).alloc (Nat.le_refl _) (.cells #[.int .i64 xk, .string xn, .slice xA m xc, .int .i64 xb, .slice x1 xt.length x2, .slice x3 xe.length x4] 131)
    clear hi1 hi2 hxok hyok hcx hcy hW1
    replace hr1 := Lib.hid hr1
    replace hr2 := Lib.hid hr2
    replace hr3 := Lib.hid hr3
    replace hc1 := Lib.hid hc1
    replace hc2 := Lib.hid hc2
    replace hres := Lib.hid hres
    replace hyes := Lib.hid hyes
    replace hx := Lib.hid hx
    replace hy := Lib.hid hy
    replace hsm := Lib.hid hsm
    replace hmx := Lib.hid hmx
    replace hmy := Lib.hid hmy
    replace p1 := Lib.hid p1
    replace o1 := Lib.hid o1
    replace hlen := Lib.hid hlen
    replace hlen' := Lib.hid hlen'
    replace hB := Lib.hid hB
    clear p2 p3 o2 o3
    have e1' := Lib.hid e1
    have e2' := Lib.hid e2
    have e3' := Lib.hid e3
    have e4' := Lib.hid e4
    have f1' := Lib.hid f1
    have f2' := Lib.hid f2
    have f3' := Lib.hid f3
    have f4' := Lib.hid f4
    clear e1 e2 e3 e4 f1 f2 f3 f4
    have hq1 : ∃ g1 g2, Value.pointer (some ⟨wr.heap.size, 0, none⟩) = .pointer (some ⟨g1, 0, none⟩) ∧ Value.pointer (some ⟨wr.heap.size + 1, 0, none⟩) = .pointer (some ⟨g2, 0, none⟩) ∧ Blk ((wr.alloc (.cells #[.int .i64 xk, .string xn, .slice xA m xc, .int .i64 xb, .slice x1 xt.length x2, .slice x3 xe.length x4] 131)).alloc (.cells #[.int .i64 yk, .string yn, .slice yA m' yc, .int .i64 yb, .slice y1 yt.length y2, .slice y3 ye.length y4] 131)).drew g1 131 #[.int .i64 xk, .string xn, .slice xA m xc, .int .i64 xb, .slice x1 xt.length x2, .slice x3 xe.length x4] ∧ Blk ((wr.alloc (.cells #[.int .i64 xk, .string xn, .slice xA m xc, .int .i64 xb, .slice x1 xt.length x2, .slice x3 xe.length x4] 131)).alloc (.cells #[.int .i64 yk, .string yn, .slice yA m' yc, .int .i64 yb, .slice y1 yt.length y2, .slice y3 ye.length y4] 131)).drew g2 131 #[.int .i64 yk, .string yn, .slice yA m' yc, .int .i64 yb, .slice y1 yt.length y2, .slice y3 ye.length y4] ∧ Below wr.heap.size wr ((wr.alloc (.cells #[.int .i64 xk, .string xn, .slice xA m xc, .int .i64 xb, .slice x1 xt.length x2, .slice x3 xe.length x4] 131)).alloc (.cells #[.int .i64 yk, .string yn, .slice yA m' yc, .int .i64 yb, .slice y1 yt.length y2, .slice y3 ye.length y4] 131)).drew := by
     obtain ⟨h1, h2, h3⟩ := two_new wr 131 #[.int .i64 xk, .string xn, .slice xA m xc, .int .i64 xb, .slice x1 xt.length x2, .slice x3 xe.length x4] #[.int .i64 yk, .string yn, .slice yA m' yc, .int .i64 yb, .slice y1 yt.length y2, .slice y3 ye.length y4]
     exact ⟨_, _, rfl, rfl, h1, h2, h3⟩
    have hq2 : ∃ g1 g2, Value.pointer (some ⟨wr.heap.size + 1, 0, none⟩) = .pointer (some ⟨g1, 0, none⟩) ∧ Value.pointer (some ⟨wr.heap.size, 0, none⟩) = .pointer (some ⟨g2, 0, none⟩) ∧ Blk ((wr.alloc (.cells #[.int .i64 yk, .string yn, .slice yA m' yc, .int .i64 yb, .slice y1 yt.length y2, .slice y3 ye.length y4] 131)).alloc (.cells #[.int .i64 xk, .string xn, .slice xA m xc, .int .i64 xb, .slice x1 xt.length x2, .slice x3 xe.length x4] 131)).drew g1 131 #[.int .i64 xk, .string xn, .slice xA m xc, .int .i64 xb, .slice x1 xt.length x2, .slice x3 xe.length x4] ∧ Blk ((wr.alloc (.cells #[.int .i64 yk, .string yn, .slice yA m' yc, .int .i64 yb, .slice y1 yt.length y2, .slice y3 ye.length y4] 131)).alloc (.cells #[.int .i64 xk, .string xn, .slice xA m xc, .int .i64 xb, .slice x1 xt.length x2, .slice x3 xe.length x4] 131)).drew g2 131 #[.int .i64 yk, .string yn, .slice yA m' yc, .int .i64 yb, .slice y1 yt.length y2, .slice y3 ye.length y4] ∧ Below wr.heap.size wr ((wr.alloc (.cells #[.int .i64 yk, .string yn, .slice yA m' yc, .int .i64 yb, .slice y1 yt.length y2, .slice y3 ye.length y4] 131)).alloc (.cells #[.int .i64 xk, .string xn, .slice xA m xc, .int .i64 xb, .slice x1 xt.length x2, .slice x3 xe.length x4] 131)).drew := by
     obtain ⟨h1, h2, h3⟩ := two_new wr 131 #[.int .i64 yk, .string yn, .slice yA m' yc, .int .i64 yb, .slice y1 yt.length y2, .slice y3 ye.length y4] #[.int .i64 xk, .string xn, .slice xA m xc, .int .i64 xb, .slice x1 xt.length x2, .slice x3 xe.length x4]
     exact ⟨_, _, rfl, rfl, h2, h1, h3⟩
    replace hq1 := Lib.hid hq1
    replace hq2 := Lib.hid hq2
    go_upto_region 6 with (fail)
    go_cut [6, 7] (fun v6 v7 wx => ∃ g1 g2, v6 = .pointer (some ⟨g1, 0, none⟩) ∧ v7 = .pointer (some ⟨g2, 0, none⟩) ∧ Blk wx g1 131 #[.int .i64 xk, .string xn, .slice xA m xc, .int .i64 xb, .slice x1 xt.length x2, .slice x3 xe.length x4] ∧ Blk wx g2 131 #[.int .i64 yk, .string yn, .slice yA m' yc, .int .i64 yb, .slice y1 yt.length y2, .slice y3 ye.length y4] ∧ Below wr.heap.size wr wx)
    case first =>
     go_region_law (fail)
     all_goals (go_wp2_with fail; go_meet; first | exact hq1.out | exact hq2.out)
    case rest =>
     clear hq1 hq2 c0 c1 c2 c3 c4 c5 d0 d1 d2 d3 d4 d5 hab hbb
     obtain ⟨g1, g2, rfl, rfl, hx1, hx2, hBw⟩ := hcut
     rename World => W0
     have hB0 := Lib.hid (below_and hB.out hBw)
     have l1 := hx1.lt
     have l2 := hx2.lt
     have z0 := hx1.cell 0
     have z1 := hx1.cell 1
     have z2 := hx1.cell 2
     have z3 := hx1.cell 3
     have z4 := hx1.cell 4
     have u0 := hx2.cell 0
     have u1 := hx2.cell 1
     have u2 := hx2.cell 2
     have u3 := hx2.cell 3
     have u4 := hx2.cell 4
     simp only [List.getElem?_toArray, List.getElem?_cons_zero, List.getElem?_cons_succ] at z0 z1 z2 z3 z4 u0 u1 u2 u3 u4
     have hx1' := Lib.hid hx1
     have hx2' := Lib.hid hx2
     have hc1' := Lib.hid (hc1.out _ hBw)
     have hBw' := Lib.hid hBw
     clear hx1 hx2 hBw
     have e1 := e1'.out
     have e2 := e2'.out
     have e3 := e3'.out
     have e4 := e4'.out
     have f1 := f1'.out
     have f2 := f2'.out
     have f3 := f3'.out
     have f4 := f4'.out
     clear e1' e2' e3' e4' f1' f2' f3' f4'
     cases b1
     ·have hRf := Lib.hid (hres.out (by simp))
      simp only [Bool.not_false] at f1
      go_wp2
      go_ret
      exact ⟨ret_b (hR.out.trans hRf.out).symm, hB0.out⟩
     cases b2
     ·have hRf := Lib.hid (hres.out (by simp))
      simp only [Bool.not_false, Bool.not_true] at f1 f2
      go_wp2
      go_ret
      exact ⟨ret_b (hR.out.trans hRf.out).symm, hB0.out⟩
     cases b3
     ·have hRf := Lib.hid (hres.out (by simp))
      simp only [Bool.not_false, Bool.not_true] at f1 f2 f3
      go_wp2
      go_ret
      exact ⟨ret_b (hR.out.trans hRf.out).symm, hB0.out⟩
     cases b4
     ·have hRf := Lib.hid (hres.out (by rw [hlen.out rfl]; simp))
      simp only [Bool.not_false, Bool.not_true] at f1 f2 f3 f4
      clear hlen hlen'
      go_wp2
      go_ret
      exact ⟨ret_b (hR.out.trans hRf.out).symm, hB0.out⟩
     have hmm := hlen'.out rfl
     subst hmm
     clear hlen hlen'
     simp only [Bool.not_true] at f1 f2 f3 f4
     go_wp2_with fail
     refine hc1'.out.mono ?_
     rintro e V1 ⟨rfl, hB1⟩
     clear z0 z1 z2 z3 z4 u0 u1 u2 u3 u4
     have hB01 := Lib.hid (below_and hB0.out hB1)
     have hw1 := below_and hBw'.out hB1
     have hx11 := hx1'.out.below hB1 hx1'.out.lt
     have hx21 := hx2'.out.below hB1 hx2'.out.lt
     cases r1
     ·have hRf := Lib.hid (hres.out (by simp))
      clear hx11 hx21 hw1
      go_wp2
      go_ret
      exact ⟨ret_b (hR.out.trans hRf.out).symm, hB01.out⟩
     have hc2' := Lib.hid (hc2.out _ hw1)
     have l3 := hx11.lt
     have l4 := hx21.lt
     have z5 := hx11.cell 5
     have u5 := hx21.cell 5
     simp only [List.getElem?_toArray, List.getElem?_cons_zero, List.getElem?_cons_succ] at z5 u5
     replace hx11 := Lib.hid hx11
     replace hx21 := Lib.hid hx21
     replace hw1 := Lib.hid hw1
     go_wp2_with fail
     refine hc2'.out.mono ?_
     rintro e V2 ⟨rfl, hB2⟩
     have hB02 := Lib.hid (below_and hB01.out hB2)
     cases r2
     ·have hRf := Lib.hid (hres.out (by simp))
      clear z5 u5
      go_wp2
      go_ret
      exact ⟨ret_b (hR.out.trans hRf.out).symm, hB02.out⟩
     have hw2 := Lib.hid (below_and hw1.out hB2)
     have hx12 := Lib.hid (hx11.out.below hB2 hx11.out.lt)
     have hx22 := Lib.hid (hx21.out.below hB2 hx21.out.lt)
     clear z5 u5 hx1' hx2' hx11 hx21 hc1' hc2' l1 l2 l3 l4 hB2 hB1
     go_wp2_with fail
     obtain ⟨Wo, hWo⟩ : ∃ x, x = wr := ⟨_, rfl⟩
     subst hWo
     go_loopw [8] (fun i wr => ∃ j : Nat, i = .int .i64 j ∧ j ≤ m ∧ Below V2.heap.size V2 wr ∧ ∀ (i : Nat) x y, i < j → xx[i]? = some x → yx[i]? = some y → x.same y = true) (fun i _ => m - (intOf i).toNat)
     case atStart => exact ⟨0, rfl, Nat.zero_le _, Below.refl _ _, fun i x y h => absurd h (by omega)⟩
     case round =>
      obtain ⟨j, rfl, hj, hB3, hsj⟩ := hrel
      have j0 : 0 ≤ (j : Int) := by omega
      have hBz := Lib.hid (below_and hB02.out hB3)
      have hx13 := hx12.out.below hB3 hx12.out.lt
      have hx23 := hx22.out.below hB3 hx22.out.lt
      have l1 := hx13.lt
      have l2 := hx23.lt
      have z2 := hx13.cell 2
      simp only [List.getElem?_toArray, List.getElem?_cons_zero, List.getElem?_cons_succ] at z2
      have hC0 : ∀ x : Ext wr, x.w.cell? ⟨g1, 2, none⟩ = some (.slice xA m xc) := fun x => (hx13.below x.below l1).cell 2
      have hC1 : ∀ x : Ext wr, x.w.cell? ⟨g2, 2, none⟩ = some (.slice yA m yc) := fun x => (hx23.below x.below l2).cell 2
      clear hx13 hx23
      by_cases hjl : j < m
      ·have hu : xx[j]? = some (xx[j]'(by have := hmx.out; omega)) := List.getElem?_eq_getElem (by have := hmx.out; omega)
       generalize xx[j]'(by have := hmx.out; omega) = u at hu
       have hv : yx[j]? = some (yx[j]'(by have := hmy.out; omega)) := List.getElem?_eq_getElem (by have := hmy.out; omega)
       generalize yx[j]'(by have := hmy.out; omega) = v at hv
       have hwj := below_and hw2.out hB3
       obtain ⟨ad2, hA, _, _, huok, hcu⟩ := (Lex.ok.all (keeps_below hwj) p1.out).at hu
       obtain ⟨bd2, hA', _, _, hvok, hcv⟩ := (Lex.ok.all (keeps_below hwj) o1.out).at hv
       have hcall := fun w2 (hB2 : Below wr.heap.size wr w2) => rsameE u v w2 (huok.below hB2) (hvok.below hB2)
       have hresj := sames_false hu hv
       obtain ⟨r, hr⟩ : ∃ r, r = u.same v := ⟨_, rfl⟩
       rw [← hr] at hcall hresj
       replace hr := Lib.hid hr
       replace hu := Lib.hid hu
       replace hv := Lib.hid hv
       replace hsj := Lib.hid hsj
       replace hresj := Lib.hid hresj
       obtain ⟨⟨pk, po, pv, pw, pn⟩, ⟨uA, uc⟩, us⟩ := u
       obtain ⟨⟨qk, qo, qv, qw, qn⟩, ⟨vA, vc⟩, vs⟩ := v
       obtain ⟨c0, c1, c2, c3, c4, c5⟩ := CellsAt.c6 hcu
       obtain ⟨d0, d1, d2, d3, d4, d5⟩ := CellsAt.c6 hcv
       simp only [aggRX, Ex.cells, eR] at c0 c1 c2 c3 c4 c5 d0 d1 d2 d3 d4 d5 hcall
       dsimp only at hA hA'
       subst hA
       subst hA'
       have j1 : (j : Int) < (m : Int) := by omega
       have hab := cell_lt c0
       have hbb := cell_lt d0
       have hX : ∀ x : Ext wr, Calls Tryz.prog 64 #[.agg #[.int .i64 pk, .int .i64 po, .int .i64 pv, .int .i64 pw, .string pn, .slice uA us.length uc], .agg #[.int .i64 qk, .int .i64 qo, .int .i64 qv, .int .i64 qw, .string qn, .slice vA vs.length vc]] x.w fun e w' => e = .returned (.bool r) ∧ Below x.w.heap.size x.w w' := fun x => hcall x.w x.below
       have C0 := fun x : Ext wr => x.cell c0 hab
       have C1 := fun x : Ext wr => x.cell c1 hab
       have C2 := fun x : Ext wr => x.cell c2 hab
       have C3 := fun x : Ext wr => x.cell c3 hab
       have C4 := fun x : Ext wr => x.cell c4 hab
       have C5 := fun x : Ext wr => x.cell c5 hab
       have D0 := fun x : Ext wr => x.cell d0 hbb
       have D1 := fun x : Ext wr => x.cell d1 hbb
       have D2 := fun x : Ext wr => x.cell d2 hbb
       have D3 := fun x : Ext wr => x.cell d3 hbb
       have D4 := fun x : Ext wr => x.cell d4 hbb
       have D5 := fun x : Ext wr => x.cell d5 hbb
       clear hcall c0 c1 c2 c3 c4 c5 d0 d1 d2 d3 d4 d5
       replace hX := Lib.hid hX
       go_wp2_with fail
       refine wp_region_grown (by kernel_rfl) (by kernel_rfl) (by kernel_rfl) ?_
       repeat (go_big_quiet_step (first | (go_at_call 64; with_reducible exact grown_of (hX.out _))))
       refine wpQuiet_nil ?_
       rintro _ ⟨x, rfl⟩
       have hB5 := Lib.hid (below_and hB3 x.below)
       cases r
       ·have hRf := Lib.hid (hres.out (by rw [hr3.out, hresj.out rfl]; simp))
        clear hresj
        go_wp2
        go_ret
        exact ⟨ret_b (hR.out.trans hRf.out).symm, below_and hBz.out x.below⟩
       ·clear hresj
        go_wp2
        go_roundw
        case rel =>
         refine ⟨j + 1, by go_num, by omega, hB5.out, fun i x y hi hx' hy' => ?_⟩
         by_cases hij : i = j
         ·subst hij
          rw [hu.out] at hx'
          rw [hv.out] at hy'
          cases hx'
          cases hy'
          exact hr.out.symm
         ·exact hsj.out i x y (by omega) hx' hy'
        case measure => simp [intOf]; omega
      ·obtain rfl : j = m := by omega
       have hrt : r3 = true := by
        rw [hr3.out]
        refine (sames_at xx yx (by rw [← hmx.out, ← hmy.out])).2 fun i x y hx hy => hsj i x y ?_ hx hy
        have := (List.getElem?_eq_some_iff.1 hx).1
        have := hmx.out
        omega
       have hnx := Lib.hid (hyes.out (by rw [hrt]; simp))
       replace hsj := Lib.hid hsj
       replace hrt := Lib.hid hrt
       clear hC0 hC1
       go_wp2_with fail
       go_roundw
       case rel => exact ⟨k + 1, by go_num, by omega, hBz.out, hnx.out⟩
       case measure => simp [intOf]; omega
   ·obtain rfl : k = n := by omega
    have hRt : R = true := by
     rw [hR.out]
     refine (sameS_at a b (by rw [← hn.out, ← hn'.out])).2 fun i x y hx hy => hsm i x y ?_ hx hy
     have := (List.getElem?_eq_some_iff.1 hx).1
     have := hn.out
     omega
    replace hRt := Lib.hid hRt
    replace hsm := Lib.hid hsm
    go_wp2
    go_ret
    exact ⟨ret_b hRt.out.symm, hB⟩
 ·have hRf : sameS a b = false := by
   cases hs : sameS a b with
   | false => rfl
   | true => exact absurd (by rw [hn, hn']; exact sameS_len hs) hl
  rw [hRf]
  have h1 : ((n : Int) == (n' : Int)) = false := by simp; omega
  have h2 : ((n : Int) != (n' : Int)) = true := by simp; omega
  have hl' := Lib.hid hl
  clear hl
  replace hn := Lib.hid hn
  replace hn' := Lib.hid hn'
  replace hRf := Lib.hid hRf
  go_enter Tryz.func65, Tryz.ntmps65
  go_wp2
  go_ret
  exact ⟨rfl, Below.refl _ _⟩
end Go.Proofs.YtnldbplphgfpeaaGreat
namespace Go.Proofs.YtnldbplphgfpeaaGreat
open Go Go.RowKit Go.Shelf
set_option linter.unusedVariables false
set_option linter.unusedSimpArgs false
set_option maxHeartbeats 8000000
def aggRP (p : Pg Loc) : Value := .agg (p.cells eR).toArray
theorem szI_take {α : Type} {l : List (In α)} {k : Nat} {x : In α} (hx : l[k]? = some x) : szI (l.take (k + 1)) = szI (l.take k) + (1 + x.val.sz) := by
 obtain ⟨q1, q2⟩ := List.getElem?_eq_some_iff.1 hx
 rw [List.take_succ_eq_append_getElem q1, q2, szI_append]
 simp [szI]
theorem szPr_take {α : Type} {l : List (Pr α)} {k : Nat} {x : Pr α} (hx : l[k]? = some x) : szPr (l.take (k + 1)) = szPr (l.take k) + (1 + x.ps.length + szS x.body) := by
 obtain ⟨q1, q2⟩ := List.getElem?_eq_some_iff.1 hx
 rw [List.take_succ_eq_append_getElem q1, q2, szPr_append]
 simp [szPr]
theorem szI_take_le {α : Type} (l : List (In α)) (k : Nat) : szI (l.take k) ≤ szI l := by
 have h := szI_append (l.take k) (l.drop k)
 rw [List.take_append_drop] at h
 omega
theorem szPr_take_le {α : Type} (l : List (Pr α)) (k : Nat) : szPr (l.take k) ≤ szPr l := by
 have h := szPr_append (l.take k) (l.drop k)
 rw [List.take_append_drop] at h
 omega
set_option maxRecDepth 100000 in
theorem rcountP (p : Pg Loc) (w : World) (hs : p.sz ≤ 20000) (hok : p.ok eR w) : Calls Tryz.prog 58 #[aggRP p] w fun r w' => r = .returned (.int .i64 (p.sz : Nat)) ∧ Below w.heap.size w w' := by
 obtain ⟨T, hT⟩ : ∃ T, T = p.sz := ⟨_, rfl⟩
 rw [← hT] at hs ⊢
 obtain ⟨bl, wd, ⟨A2, c2⟩, ins, ⟨A3, c3⟩, gh, ⟨A4, c4⟩, va, ⟨A5, c5⟩, ar, ⟨⟨rk, ro, rv, rwd, rn⟩, ⟨rA, rc⟩, rs⟩, ⟨A7, c7⟩, inits, ⟨A8, c8⟩, procs, ⟨A9, c9⟩, work, ⟨A10, c10⟩, recov, ⟨⟨ik, io, iv, iwd, inn⟩, ⟨iA, ic⟩, is⟩⟩ := p
 obtain ⟨xr, hxr⟩ : ∃ x, x = Ex.mk ⟨rk, ro, rv, rwd, rn⟩ (⟨rA, rc⟩ : Loc) rs := ⟨_, rfl⟩
 obtain ⟨xi, hxi⟩ : ∃ x, x = Ex.mk ⟨ik, io, iv, iwd, inn⟩ (⟨iA, ic⟩ : Loc) is := ⟨_, rfl⟩
 obtain ⟨k1, k2, k3, k4, k5, k6, k7, k8, k9, k10⟩ := hok
 dsimp only at k1 k2 k3 k4 k5 k6 k7 k8 k9 k10
 simp only [Pg.sz] at hT
 simp only [aggRP, Pg.cells, Ex.cells, eR, List.cons_append, List.nil_append]
 rw [← hxr] at k5 hT
 rw [← hxi] at k10 hT
 have hax : aggRX xr = .agg #[.int .i64 rk, .int .i64 ro, .int .i64 rv, .int .i64 rwd, .string rn, .slice rA rs.length rc] := by rw [hxr]; rfl
 have hay : aggRX xi = .agg #[.int .i64 ik, .int .i64 io, .int .i64 iv, .int .i64 iwd, .string inn, .slice iA is.length ic] := by rw [hxi]; rfl
 have hl7 := szI_len inits
 have hl8 := szPr_len procs
 obtain ⟨q0, hq0⟩ : ∃ q, q = ins.length + gh.length + va.length + ar.length + 1 := ⟨_, rfl⟩
 obtain ⟨q1, hq1⟩ : ∃ q, q = q0 + xr.sz := ⟨_, rfl⟩
 obtain ⟨q2, hq2⟩ : ∃ q, q = q1 + szI inits := ⟨_, rfl⟩
 obtain ⟨q3, hq3⟩ : ∃ q, q = q2 + szPr procs := ⟨_, rfl⟩
 obtain ⟨q4, hq4⟩ : ∃ q, q = q3 + szS work := ⟨_, rfl⟩
 obtain ⟨q5, hq5⟩ : ∃ q, q = q4 + szS recov := ⟨_, rfl⟩
 have hq6 : T = q5 + xi.sz := by omega
 have T0 : (T : Int) ≤ 20000 := by omega
 have t5 : (q5 : Int) ≤ T := by omega
 have t4 : (q4 : Int) ≤ q5 := by omega
 have t3 : (q3 : Int) ≤ q4 := by omega
 have t2 : (q2 : Int) ≤ q3 := by omega
 have t1 : (q1 : Int) ≤ q2 := by omega
 have t0 : (q0 : Int) ≤ q1 := by omega
 have hcr := fun w2 (h2 : Below w.heap.size w w2) => rcountE xr q0 w2 (by omega) (k5.below h2)
 have hcw := fun w2 (h2 : Below w.heap.size w w2) => rcountS work ⟨A9, c9⟩ q3 w2 (by omega) (k8.all (keeps_below h2))
 have hcv := fun w2 (h2 : Below w.heap.size w w2) => rcountS recov ⟨A10, c10⟩ q4 w2 (by omega) (k9.all (keeps_below h2))
 have hci := fun w2 (h2 : Below w.heap.size w w2) => rcountE xi q5 w2 (by omega) (k10.below h2)
 rw [← hq1, hax] at hcr
 rw [← hq4] at hcw
 rw [← hq5] at hcv
 rw [← hq6, hay] at hci
 dsimp only at hcw hcv
 obtain ⟨n2, hn2⟩ : ∃ n, n = ins.length := ⟨_, rfl⟩
 obtain ⟨n3, hn3⟩ : ∃ n, n = gh.length := ⟨_, rfl⟩
 obtain ⟨n4, hn4⟩ : ∃ n, n = va.length := ⟨_, rfl⟩
 obtain ⟨n5, hn5⟩ : ∃ n, n = ar.length := ⟨_, rfl⟩
 obtain ⟨n7, hn7⟩ : ∃ n, n = inits.length := ⟨_, rfl⟩
 obtain ⟨n8, hn8⟩ : ∃ n, n = procs.length := ⟨_, rfl⟩
 obtain ⟨n9, hn9⟩ : ∃ n, n = work.length := ⟨_, rfl⟩
 obtain ⟨n10, hn10⟩ : ∃ n, n = recov.length := ⟨_, rfl⟩
 obtain ⟨nr, hnr⟩ : ∃ n, n = rs.length := ⟨_, rfl⟩
 obtain ⟨ni, hni⟩ : ∃ n, n = is.length := ⟨_, rfl⟩
 rw [← hn2, ← hn3, ← hn4, ← hn5, ← hn7, ← hn8, ← hn9, ← hn10, ← hnr, ← hni]
 rw [← hn9] at hcw
 rw [← hn10] at hcv
 rw [← hnr] at hcr
 rw [← hni] at hci
 have hq0' : q0 = 1 + n2 + n3 + n4 + n5 := by omega
 have n7i : (n7 : Int) ≤ 20000 := by omega
 have n8i : (n8 : Int) ≤ 20000 := by omega
 have n2i : (n2 : Int) ≤ 20000 := by omega
 have n3i : (n3 : Int) ≤ 20000 := by omega
 have n4i : (n4 : Int) ≤ 20000 := by omega
 have n5i : (n5 : Int) ≤ 20000 := by omega
 have hb := Blk.new w 75 #[.int .i64 bl, .int .i64 wd, .slice A2 n2 c2, .slice A3 n3 c3, .slice A4 n4 c4, .slice A5 n5 c5, .int .i64 rk, .int .i64 ro, .int .i64 rv, .int .i64 rwd, .string rn, .slice rA nr rc, .slice A7 n7 c7, .slice A8 n8 c8, .slice A9 n9 c9, .slice A10 n10 c10, .int .i64 ik, .int .i64 io, .int .i64 iv, .int .i64 iwd, .string inn, .slice iA ni ic]
 have hB := (Below.refl _ w).alloc (Nat.le_refl _) (.cells #[.int .i64 bl, .int .i64 wd, .slice A2 n2 c2, .slice A3 n3 c3, .slice A4 n4 c4, .slice A5 n5 c5, .int .i64 rk, .int .i64 ro, .int .i64 rv, .int .i64 rwd, .string rn, .slice rA nr rc, .slice A7 n7 c7, .slice A8 n8 c8, .slice A9 n9 c9, .slice A10 n10 c10, .int .i64 ik, .int .i64 io, .int .i64 iv, .int .i64 iwd, .string inn, .slice iA ni ic] 75)
 replace hcr := Lib.hid hcr
 replace hci := Lib.hid hci
 replace hcw := Lib.hid hcw
 replace hcv := Lib.hid hcv
 replace hT := Lib.hid hT
 replace hxr := Lib.hid hxr
 replace hxi := Lib.hid hxi
 replace hn2 := Lib.hid hn2
 replace hn3 := Lib.hid hn3
 replace hn4 := Lib.hid hn4
 replace hn5 := Lib.hid hn5
 replace hn7 := Lib.hid hn7
 replace hn8 := Lib.hid hn8
 replace hn9 := Lib.hid hn9
 replace hn10 := Lib.hid hn10
 replace hnr := Lib.hid hnr
 replace hni := Lib.hid hni
 replace k6 := Lib.hid k6
 replace k7 := Lib.hid k7
 replace hq0 := Lib.hid hq0
 replace hq1 := Lib.hid hq1
 replace hq2 := Lib.hid hq2
 replace hq3 := Lib.hid hq3
 replace hq4 := Lib.hid hq4
 replace hq5 := Lib.hid hq5
 replace hq6 := Lib.hid hq6
 replace hq0' := Lib.hid hq0'
 replace hb := Lib.hid hb
 replace hB := Lib.hid hB
 clear k1 k2 k3 k4 k5 k8 k9 k10 hax hay hl7 hl8
 go_enter Tryz.func58, Tryz.ntmps58
 go_upto_region 1 with (fail)
 generalize w.alloc (.cells #[.int .i64 bl, .int .i64 wd, .slice A2 n2 c2, .slice A3 n3 c3, .slice A4 n4 c4, .slice A5 n5 c5, .int .i64 rk, .int .i64 ro, .int .i64 rv, .int .i64 rwd, .string rn, .slice rA nr rc, .slice A7 n7 c7, .slice A8 n8 c8, .slice A9 n9 c9, .slice A10 n10 c10, .int .i64 ik, .int .i64 io, .int .i64 iv, .int .i64 iwd, .string inn, .slice iA ni ic] 75) = W1 at *
 obtain ⟨g, hg⟩ : ∃ g, w.heap.size = g := ⟨_, rfl⟩
 rw [hg] at hb ⊢
 replace hg := Lib.hid hg
 have hcr' := Lib.hid (hcr.out _ hB.out)
 have hq0i : (1 : Int) + n2 + n3 + n4 + n5 = (q0 : Int) := by have := hq0'.out; omega
 replace hq0i := Lib.hid hq0i
 have v2 := hb.out.cell 2
 have v3 := hb.out.cell 3
 have v4 := hb.out.cell 4
 have v5 := hb.out.cell 5
 have v6 := hb.out.cell 6
 have v7 := hb.out.cell 7
 have v8 := hb.out.cell 8
 have v9 := hb.out.cell 9
 have v10 := hb.out.cell 10
 have v11 := hb.out.cell 11
 have vl := hb.out.lt
 simp only [List.getElem?_toArray, List.getElem?_cons_zero, List.getElem?_cons_succ] at v2 v3 v4 v5 v6 v7 v8 v9 v10 v11
 go_wp2_with fail
 try rw [hq0i.out]
 refine hcr'.out.mono ?_
 rintro e W2 ⟨rfl, hB1⟩
 clear v2 v3 v4 v5 v6 v7 v8 v9 v10 v11 vl hcr hcr'
 have hb2 := Lib.hid (hb.out.below hB1 hb.out.lt)
 have hB2 := Lib.hid (below_and hB.out hB1)
 clear hb hB hB1
 go_wp2_with fail
 go_loopw [3, 4] (fun v3 v4 wr => ∃ (j p : Nat), v4 = .int .i64 j ∧ v3 = .int .i64 p ∧ j ≤ n7 ∧ p = q1 + szI (inits.take j) ∧ Below W2.heap.size W2 wr) (fun _ v4 _ => n7 - (intOf v4).toNat)
 case atStart => exact ⟨0, q1, rfl, rfl, Nat.zero_le _, by simp [szI], Below.refl _ _⟩
 case round =>
  obtain ⟨j, p, rfl, rfl, hj, hp, hB5⟩ := hrel
  have j0 : 0 ≤ (j : Int) := by omega
  have hple := szI_take_le inits j
  have pi : (p : Int) ≤ 20000 := by have := hq2.out; omega
  replace hp := Lib.hid hp
  replace hple := Lib.hid hple
  have hb3 := hb2.out.below hB5 hb2.out.lt
  have hBo := Lib.hid (below_and hB2.out hB5)
  have v12 := hb3.cell 12
  have vl := hb3.lt
  simp only [List.getElem?_toArray, List.getElem?_cons_zero, List.getElem?_cons_succ] at v12
  replace hb3 := Lib.hid hb3
  by_cases hjl : j < n7
  ·have hy : inits[j]? = some (inits[j]'(by have := hn7.out; omega)) := List.getElem?_eq_getElem (by have := hn7.out; omega)
   generalize inits[j]'(by have := hn7.out; omega) = y at hy
   obtain ⟨ad2, hA2, _, hyok, hcy⟩ := (k6.out.keep (keeps_below hBo.out) (fun _ _ => trivial)).at hy
   have hyn := szI_take hy
   have hyl := szI_take_le inits (j + 1)
   have hpo := hp.out
   have hq2o := hq2.out
   obtain ⟨p', hp'⟩ : ∃ x, x = p + 1 + y.val.sz := ⟨_, rfl⟩
   have hcall := rcountE y.val (p + 1) wr (by omega) hyok
   rw [← hp'] at hcall
   have p'i : (p' : Int) ≤ 20000 := by omega
   have hpn : p' = q1 + szI (inits.take (j + 1)) := by omega
   obtain ⟨yb, ⟨⟨yk, yo, yv, yw, yn⟩, ⟨yA, yc⟩, ys⟩⟩ := y
   obtain ⟨d0, d1, d2, d3, d4, d5, d6⟩ := CellsAt.c7 hcy
   dsimp only at hA2 hcall
   simp only [eR, aggRX, Ex.cells] at d1 d2 d3 hcall
   subst hA2
   have j1 : (j : Int) < (n7 : Int) := by omega
   have hab2 := cell_lt d0
   have hpp : (p : Int) + 1 = ((p + 1 : Nat) : Int) := by omega
   replace hcall := Lib.hid hcall
   replace hpp := Lib.hid hpp
   replace hpn := Lib.hid hpn
   replace hp' := Lib.hid hp'
   replace hy := Lib.hid hy
   clear hyn hyl hpo hq2o hcy hyok
   go_wp2_with fail
   rw [hpp.out]
   refine hcall.out.mono ?_
   rintro e w2 ⟨rfl, hB7⟩
   have hB8 := Lib.hid (below_and hB5 hB7)
   clear d0 d1 d2 d3 d4 d5 d6 v12 vl
   go_wp2_with fail
   go_roundw
   case rel => exact ⟨j + 1, p', by go_num, rfl, by omega, hpn.out, hB8.out⟩
   case measure => simp [intOf]; omega
  ·obtain rfl : j = n7 := by omega
   have hpe : p = q2 := by
    have h1 := hp.out
    have h2 := hq2.out
    rw [List.take_of_length_le (by have := hn7.out; omega)] at h1
    omega
   subst hpe
   clear hp hple hb2 hB2
   obtain ⟨W3, hW3⟩ : ∃ x, x = wr := ⟨_, rfl⟩
   subst hW3
   go_wp2_with fail
   clear v12 vl
   go_loopw [3, 5] (fun v3 v5 wr => ∃ (i r : Nat), v5 = .int .i64 i ∧ v3 = .int .i64 r ∧ i ≤ n8 ∧ r = p + szPr (procs.take i) ∧ Below W3.heap.size W3 wr) (fun _ v5 _ => n8 - (intOf v5).toNat)
   case atStart => exact ⟨0, p, rfl, rfl, Nat.zero_le _, by simp [szPr], Below.refl _ _⟩
   case round =>
    obtain ⟨i, r, rfl, rfl, hi, hr, hB6⟩ := hrel
    have i0 : 0 ≤ (i : Int) := by omega
    have hrle := szPr_take_le procs i
    have ri : (r : Int) ≤ 20000 := by have := hq3.out; omega
    replace hr := Lib.hid hr
    replace hrle := Lib.hid hrle
    have hb4 := hb3.out.below hB6 hb3.out.lt
    have hBp := Lib.hid (below_and hBo.out hB6)
    have v13 := hb4.cell 13
    have vl := hb4.lt
    simp only [List.getElem?_toArray, List.getElem?_cons_zero, List.getElem?_cons_succ] at v13
    replace hb4 := Lib.hid hb4
    by_cases hil : i < n8
    ·have hy : procs[i]? = some (procs[i]'(by have := hn8.out; omega)) := List.getElem?_eq_getElem (by have := hn8.out; omega)
     generalize procs[i]'(by have := hn8.out; omega) = y at hy
     obtain ⟨ad2, hA2, _, hyok, hcy⟩ := (k7.out.keep (keeps_below hBp.out) (fun _ _ => trivial)).at hy
     have hyn := szPr_take hy
     have hyl := szPr_take_le procs (i + 1)
     have hro := hr.out
     have hq3o := hq3.out
     obtain ⟨r', hr'⟩ : ∃ x, x = r + 1 + y.ps.length + szS y.body := ⟨_, rfl⟩
     have hcall := fun w2 (h2 : Below wr.heap.size wr w2) => rcountS y.body y.lb (r + 1 + y.ps.length) w2 (by omega) (hyok.2.all (keeps_below h2))
     rw [← hr'] at hcall
     have r'i : (r' : Int) ≤ 20000 := by omega
     have hrn : r' = p + szPr (procs.take (i + 1)) := by omega
     obtain ⟨yn, ⟨pA, pc⟩, ps, ⟨bA, bc⟩, body⟩ := y
     simp only [Pr.cells] at hcy
     dsimp only at hA2 hcall hr' hyn
     obtain ⟨np, hnp⟩ : ∃ n, n = ps.length := ⟨_, rfl⟩
     obtain ⟨nb, hnb⟩ : ∃ n, n = body.length := ⟨_, rfl⟩
     rw [← hnp, ← hnb] at hcy
     rw [← hnp, ← hnb] at hcall
     rw [← hnp] at hr'
     have npi : (np : Int) ≤ 20000 := by omega
     have hri : (r : Int) + 1 + np = ((r + 1 + np : Nat) : Int) := by omega
     have hrb : ((r + 1 + np : Nat) : Int) ≤ 20000 := by omega
     obtain ⟨rr, hrr⟩ : ∃ x, x = r + 1 + np := ⟨_, rfl⟩
     rw [← hrr] at hri hrb hcall
     obtain ⟨d0, d1, d2⟩ := CellsAt.c3 hcy
     subst hA2
     have i1 : (i : Int) < (n8 : Int) := by omega
     have hab2 := cell_lt d0
     have hX : ∀ x : Ext wr, Calls Tryz.prog 67 #[.slice bA nb bc, .int .i64 (rr : Nat)] x.w fun e w' => e = .returned (.int .i64 (r' : Nat)) ∧ Below x.w.heap.size x.w w' := fun x => hcall x.w x.below
     have D1 := fun x : Ext wr => x.cell d1 hab2
     have D2 := fun x : Ext wr => x.cell d2 hab2
     have D13 := fun x : Ext wr => x.cell v13 vl
     replace hX := Lib.hid hX
     replace hrn := Lib.hid hrn
     replace hr' := Lib.hid hr'
     replace hy := Lib.hid hy
     replace hnp := Lib.hid hnp
     replace hnb := Lib.hid hnb
     replace hrr := Lib.hid hrr
     clear hyn hyl hro hq3o hcy hyok hcall
     go_wp2_with fail
     clear d0 d1 d2
     refine wp_region_grown (by kernel_rfl) (by kernel_rfl) (by kernel_rfl) ?_
     repeat (go_big_quiet_step (first | (rw [hri]; go_at_call 67; with_reducible exact grown_of (hX.out _)) | (go_at_call 67; with_reducible exact grown_of (hX.out _))))
     refine wpQuiet_nil ?_
     rintro _ ⟨x, rfl⟩
     have hB7 := Lib.hid (below_and hB6 x.below)
     clear v13 vl D1 D2 D13
     go_wp2_with fail
     go_roundw
     case rel => exact ⟨i + 1, r', by go_num, rfl, by omega, hrn.out, hB7.out⟩
     case measure => simp [intOf]; omega
    ·obtain rfl : i = n8 := by omega
     have hre : r = q3 := by
      have h1 := hr.out
      have h2 := hq3.out
      rw [List.take_of_length_le (by have := hn8.out; omega)] at h1
      omega
     subst hre
     clear hr hrle hb3 hBo
     have hcw' := Lib.hid (hcw.out _ hBp.out)
     have v14 := hb4.out.cell 14
     have vl := hb4.out.lt
     simp only [List.getElem?_toArray, List.getElem?_cons_zero, List.getElem?_cons_succ] at v14
     go_wp2_with fail
     refine hcw'.out.mono ?_
     rintro e W4 ⟨rfl, hB7⟩
     clear v13 v14 vl hcw' hcw
     have hb5 := Lib.hid (hb4.out.below hB7 hb4.out.lt)
     have hBq := Lib.hid (below_and hBp.out hB7)
     have hcv' := Lib.hid (hcv.out _ hBq.out)
     clear hB7 hb4 hBp hB6
     have v15 := hb5.out.cell 15
     have vl := hb5.out.lt
     simp only [List.getElem?_toArray, List.getElem?_cons_zero, List.getElem?_cons_succ] at v15
     go_wp2_with fail
     refine hcv'.out.mono ?_
     rintro e W5 ⟨rfl, hB7⟩
     clear v15 vl hcv' hcv
     have hb6 := Lib.hid (hb5.out.below hB7 hb5.out.lt)
     have hBr := Lib.hid (below_and hBq.out hB7)
     have hci' := Lib.hid (hci.out _ hBr.out)
     clear hB7 hb5 hBq
     have v16 := hb6.out.cell 16
     have v17 := hb6.out.cell 17
     have v18 := hb6.out.cell 18
     have v19 := hb6.out.cell 19
     have v20 := hb6.out.cell 20
     have v21 := hb6.out.cell 21
     have vl := hb6.out.lt
     simp only [List.getElem?_toArray, List.getElem?_cons_zero, List.getElem?_cons_succ] at v16 v17 v18 v19 v20 v21
     go_wp2_with fail
     refine hci'.out.mono ?_
     rintro e W6 ⟨rfl, hB7⟩
     have hBs := Lib.hid (below_and hBr.out hB7)
     clear v16 v17 v18 v19 v20 v21 vl hci' hci hB7
     go_wp2_with fail
     go_ret
     exact ⟨rfl, hBs.out⟩
end Go.Proofs.YtnldbplphgfpeaaGreat
