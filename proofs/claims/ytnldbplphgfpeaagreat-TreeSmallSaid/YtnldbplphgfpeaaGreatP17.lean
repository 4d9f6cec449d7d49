/- Lemmas for salvor/salvorlaw29.TreeSmall (part 17); no condition. -/
import Derived.Test.YtnldbplphgfpeaaGreatP14
import Derived.Test.YtnldbplphgfpeaaGreatP13
import Derived.Test.YtnldbplphgfpeaaGreatP16
import Derived.Test.YtnldbplphgfpeaaGreatP08
namespace Go.Proofs.YtnldbplphgfpeaaGreat
open Go Go.RowKit Go.Shelf
set_option linter.unusedVariables false
set_option linter.unusedSimpArgs false
set_option maxHeartbeats 8000000
theorem shut_mkX {p : Prop} (h : p) : Shut p := h
def RRn (e : Ex Loc) : Prop := ∀ (f t : ByteArray) (w : World), e.ok eR w → e.sz ≤ 60000 → Calls Tryz.prog 72 #[aggRX e, .string f, .string t] w fun r w' => (∃ v, r = .returned v ∧ exR eR (e.ren (chg f t)) v w.heap.size w'.heap.size w') ∧ Below w.heap.size w w'
set_option maxRecDepth 100000 in
theorem rrename : ∀ e : Ex Loc, RRn e := by
 intro e
 induction e using Ex.ind with
 | h hd lc ss ih =>
 intro f t w hok hsz
 have hrow : Lex.ok eR w lc ss := hok
 have hszs : szs ss ≤ 60000 := by simp only [Ex.sz] at hsz; omega
 have hln := szs_len ss
 obtain ⟨n, hn⟩ : ∃ n, n = ss.length := ⟨_, rfl⟩
 have n63 : (n : Int) ≤ 60000 := by omega
 obtain ⟨xk, xo, xv, xw, xn⟩ := hd
 obtain ⟨lA, lc⟩ := lc
 obtain ⟨b1, e1⟩ : ∃ b, (xk == 2) = b := ⟨_, rfl⟩
 obtain ⟨b2, e2⟩ : ∃ b, (xk == 3) = b := ⟨_, rfl⟩
 obtain ⟨b3, e3⟩ : ∃ b, (xn.toList == f.toList) = b := ⟨_, rfl⟩
 obtain ⟨b, hb⟩ : ∃ b, b = ((b1 || b2) && b3) := ⟨_, rfl⟩
 obtain ⟨nm, hnm⟩ : ∃ nm, nm = if b = true then t else xn := ⟨_, rfl⟩
 have hpl : (Ex.mk ⟨xk, xo, xv, xw, xn⟩ (⟨lA, lc⟩ : Loc) ss).ren (chg f t) = Ex.mk ⟨xk, xo, xv, xw, nm⟩ () (rens (chg f t) ss) := by
  simp only [Ex.ren, Hd.ren]
  congr 1
  rw [hnm, hb, ← e1, ← e2, ← e3]
  simp only [chg, Bool.and_eq_true, Bool.or_eq_true, beq_iff_eq]
  by_cases h1 : xk = 2 ∨ xk = 3 <;> by_cases h2 : xn.toList = f.toList <;> simp [h1, h2]
 rw [hpl]
 simp only [aggRX, Ex.cells, eR]
 rw [← hn]
 obtain ⟨W0, hW0⟩ : ∃ W, ((w.alloc (.cells #[.int .i64 xk, .int .i64 xo, .int .i64 xv, .int .i64 xw, .string xn, .slice lA n lc] 70)).alloc (.cells #[.int .i64 0, .int .i64 0, .int .i64 0, .int .i64 0, .string ⟨#[]⟩, .slice none 0 0] 70)).alloc (.cells #[.int .i64 xk, .int .i64 xo, .int .i64 xv, .int .i64 xw, .string xn, .slice lA n lc] 70) = W := ⟨_, rfl⟩
 have hB0 := ((new_below w (.cells #[.int .i64 xk, .int .i64 xo, .int .i64 xv, .int .i64 xw, .string xn, .slice lA n lc] 70)).alloc (by simp) (.cells #[.int .i64 0, .int .i64 0, .int .i64 0, .int .i64 0, .string ⟨#[]⟩, .slice none 0 0] 70)).alloc (by simp only [World.size_alloc]; omega) (.cells #[.int .i64 xk, .int .i64 xo, .int .i64 xv, .int .i64 xw, .string xn, .slice lA n lc] 70)
 have hb1 := ((Blk.new w 70 #[.int .i64 xk, .int .i64 xo, .int .i64 xv, .int .i64 xw, .string xn, .slice lA n lc]).alloc (.cells #[.int .i64 0, .int .i64 0, .int .i64 0, .int .i64 0, .string ⟨#[]⟩, .slice none 0 0] 70)).alloc (.cells #[.int .i64 xk, .int .i64 xo, .int .i64 xv, .int .i64 xw, .string xn, .slice lA n lc] 70)
 have hb2 := (Blk.new (w.alloc (.cells #[.int .i64 xk, .int .i64 xo, .int .i64 xv, .int .i64 xw, .string xn, .slice lA n lc] 70)) 70 #[.int .i64 0, .int .i64 0, .int .i64 0, .int .i64 0, .string ⟨#[]⟩, .slice none 0 0]).alloc (.cells #[.int .i64 xk, .int .i64 xo, .int .i64 xv, .int .i64 xw, .string xn, .slice lA n lc] 70)
 have hb3 := Blk.new ((w.alloc (.cells #[.int .i64 xk, .int .i64 xo, .int .i64 xv, .int .i64 xw, .string xn, .slice lA n lc] 70)).alloc (.cells #[.int .i64 0, .int .i64 0, .int .i64 0, .int .i64 0, .string ⟨#[]⟩, .slice none 0 0] 70)) 70 #[.int .i64 xk, .int .i64 xo, .int .i64 xv, .int .i64 xw, .string xn, .slice lA n lc]
 have hs0 : (((w.alloc (.cells #[.int .i64 xk, .int .i64 xo, .int .i64 xv, .int .i64 xw, .string xn, .slice lA n lc] 70)).alloc (.cells #[.int .i64 0, .int .i64 0, .int .i64 0, .int .i64 0, .string ⟨#[]⟩, .slice none 0 0] 70)).alloc (.cells #[.int .i64 xk, .int .i64 xo, .int .i64 xv, .int .i64 xw, .string xn, .slice lA n lc] 70)).heap.size = w.heap.size + 3 := by simp only [World.size_alloc]
 simp only [World.size_alloc] at hb2 hb3
 rw [hW0] at hB0 hb1 hb2 hb3 hs0
 obtain ⟨i0, hi, hz0, hz1, hz2⟩ := info_parts infoRE
 replace hi := Lib.hid hi
 replace hz0 := Lib.hid hz0
 replace hz1 := Lib.hid hz1
 replace hz2 := Lib.hid hz2
 replace hn := Lib.hid hn
 replace ih := Lib.hid ih
 replace hrow := Lib.hid hrow
 replace hW0 := Lib.hid hW0
 replace hB0 := Lib.hid hB0
 replace hb1 := Lib.hid hb1
 replace hb2 := Lib.hid hb2
 replace hb3 := Lib.hid hb3
 replace hs0 := Lib.hid hs0
 replace hszs := Lib.hid hszs
 replace hb := Lib.hid hb
 replace hnm := Lib.hid hnm
 clear hok hsz hpl hln
 go_enter Tryz.func72, Tryz.ntmps72
 go_upto_region 2 with (fail)
 rw [hW0.out]
 obtain ⟨g1, hg1⟩ : ∃ g, w.heap.size = g := ⟨_, rfl⟩
 obtain ⟨g2, hg2⟩ : ∃ g, w.heap.size + 1 = g := ⟨_, rfl⟩
 obtain ⟨g3, hg3⟩ : ∃ g, w.heap.size + 1 + 1 = g := ⟨_, rfl⟩
 rw [hg3, hg2, hg1]
 replace hb1 := hb1.out
 replace hb2 := hb2.out
 replace hb3 := hb3.out
 rw [hg1] at hb1
 rw [hg2] at hb2
 rw [hg3] at hb3
 have hgs : g1 = w.heap.size ∧ g2 = w.heap.size + 1 ∧ g3 = w.heap.size + 2 ∧ W0.heap.size = w.heap.size + 3 := by have := hs0.out; omega
 replace hgs := Lib.hid hgs
 have hb1' := Lib.hid hb1
 replace hb2 := Lib.hid hb2
 replace hb3 := Lib.hid hb3
 clear hg1 hg2 hg3 hs0
 go_cut [23] (fun v23 wx => v23 = .bool b ∧ W0 = wx)
 case first =>
  have c0 := hb1.cell 0
  have c4 := hb1.cell 4
  simp only [List.getElem?_toArray, List.getElem?_cons_zero, List.getElem?_cons_succ] at c0 c4
  clear hb1
  cases b1 <;> cases b2
  ·go_wp2
   go_meet
   exact ⟨by rw [hb.out]; rfl, rfl⟩
  all_goals
   go_wp2
   go_meet
   exact ⟨by rw [hb.out]; simp, rfl⟩
 case rest =>
  obtain ⟨rfl, rfl⟩ := hcut
  clear e1 e2 e3 hb
  go_upto_if 23 with (fail)
  go_cut [23] (fun v23 wx => Blk wx g3 70 #[.int .i64 xk, .int .i64 xo, .int .i64 xv, .int .i64 xw, .string nm, .slice lA n lc] ∧ Only [g3] W0 wx)
  case first =>
   have h3 := hb3.out
   have c4 := h3.cell 4
   have f4 := h3.frozen 4
   simp only [List.getElem?_toArray, List.getElem?_cons_zero, List.getElem?_cons_succ] at c4
   have hst := h3.set_ 4 (.string t)
   simp only [List.setIfInBounds_toArray, List.set_cons_zero, List.set_cons_succ] at hst
   replace hst := Lib.hid hst
   clear h3
   cases b
   ·go_wp2
    go_meet
    rw [hnm.out]
    exact ⟨hb3.out, Only.refl _ _⟩
   ·go_wp2
    go_meet
    rw [hnm.out]
    exact ⟨hst.out, (Only.refl [g3] W0).setCell (.inl (by simp)) _⟩
  case rest =>
   clear hb3 hb1
   obtain ⟨hb3, ho3⟩ := hcut
   rename World => W1
   have hB1 : Below w.heap.size w W1 := hB0.out.trans (ho3.below hB0.out.size (by have := hgs.out; simp; omega))
   have hb1r := hb1'.out.only ho3 (by have := hgs.out; simp; omega)
   have hb2r := hb2.out.only ho3 (by have := hgs.out; simp; omega)
   have hs1 := ho3.size
   have c5 := hb3.cell 5
   have f5 := hb3.frozen 5
   simp only [List.getElem?_toArray, List.getElem?_cons_zero, List.getElem?_cons_succ] at c5
   have ho4 : Only [g3] W1 (W1.setCell ⟨g3, 5, none⟩ (.slice none 0 0)) := (Only.refl [g3] W1).setCell (.inl (by simp)) _
   have hb3r := hb3.set_ 5 (.slice none 0 0)
   simp only [List.setIfInBounds_toArray, List.set_cons_zero, List.set_cons_succ] at hb3r
   replace hb1r := Lib.hid (hb1r.only ho4 (by have := hgs.out; simp; omega))
   replace hb2r := Lib.hid (hb2r.only ho4 (by have := hgs.out; simp; omega))
   replace hB1 := Lib.hid (hB1.trans (ho4.below hB1.size (by have := hgs.out; simp; omega)))
   have hs2 := Lib.hid (Nat.le_trans hs1 ho4.size)
   replace hb3r := Lib.hid hb3r
   have l3 := hb3.lt
   clear ho3 ho4 hs1 hb3 hb1' hb2
   go_wp2_with fail
   generalize W1.setCell ⟨g3, 5, none⟩ (.slice none 0 0) = W2 at *
   clear c5 f5 l3
   go_loopw [8] (fun v8 wr => ∃ (k : Nat) (A : Option Addr) (c : Nat) (ls : List (Ex Loc)), v8 = .int .i64 k ∧ k ≤ n ∧ ls.length = k ∧ plains ls = rens (chg f t) (ss.take k) ∧ Blk wr g1 70 #[.int .i64 xk, .int .i64 xo, .int .i64 xv, .int .i64 xw, .string xn, .slice lA n lc] ∧ Blk wr g2 70 #[.int .i64 0, .int .i64 0, .int .i64 0, .int .i64 0, .string ⟨#[]⟩, .slice none 0 0] ∧ Blk wr g3 70 #[.int .i64 xk, .int .i64 xo, .int .i64 xv, .int .i64 xw, .string nm, .slice A k c] ∧ LexB eR wr W0.heap.size ⟨A, c⟩ ls ∧ Below w.heap.size w wr ∧ W0.heap.size ≤ wr.heap.size) (fun v8 _ => n - (intOf v8).toNat)
   case atStart => exact ⟨0, none, 0, [], rfl, Nat.zero_le _, rfl, rfl, hb1r.out, hb2r.out, hb3r.out, LexB.nil _ _ _, hB1.out, hs2.out⟩
   case round =>
    obtain ⟨k, A, c, ls, rfl, hk, hlk, hpk, hb1, hb2, hb3, hX, hB, hWs⟩ := hrel
    have k0 : 0 ≤ (k : Int) := by omega
    by_cases hlt : k < n
    ·have hx : ss[k]? = some (ss[k]'(by have := hn.out; omega)) := List.getElem?_eq_getElem (by have := hn.out; omega)
     generalize ss[k]'(by have := hn.out; omega) = x at hx
     have hmem := List.mem_of_getElem? hx
     obtain ⟨ad, hA, _, _, hxok, hcx⟩ := (hrow.out.all (keeps_below hB)).at hx
     have hcall := fun w2 (h2 : Below wr.heap.size wr w2) => ih.out x hmem f t w2 (hxok.below h2) (by have := szs_mem hmem; have := hszs.out; omega)
     have hnext : rens (chg f t) (ss.take (k + 1)) = rens (chg f t) (ss.take k) ++ [x.ren (chg f t)] := by
      obtain ⟨q1, q2⟩ := List.getElem?_eq_some_iff.1 hx
      rw [List.take_succ_eq_append_getElem q1, q2, rens_map, rens_map, List.map_append]
      rfl
     obtain ⟨p, hp⟩ : ∃ p, p = x.ren (chg f t) := ⟨_, rfl⟩
     rw [← hp] at hnext hcall
     obtain ⟨⟨yk, yo, yv, yw, yn⟩, ⟨yA, yc⟩, ys⟩ := x
     obtain ⟨d0, d1, d2, d3, d4, d5⟩ := CellsAt.c6 hcx
     dsimp only at hA
     simp only [aggRX, Ex.cells, eR] at d0 d1 d2 d3 d4 d5 hcall
     subst hA
     have k1 : (k : Int) < (n : Int) := by omega
     have hab := cell_lt d0
     have c15 := hb1.cell 5
     have c35 := hb3.cell 5
     simp only [List.getElem?_toArray, List.getElem?_cons_zero, List.getElem?_cons_succ] at c15 c35
     have l1 := hb1.lt
     have l3 := hb3.lt
     have hL : ∀ W, Below wr.heap.size wr W → W.cell? ⟨g3, 5, none⟩ = some (.slice A k c) ∧ W.cell? ⟨g1, 5, none⟩ = some (.slice (some ad) n lc) ∧ W.cell? (ad.add (k * 6)) = some (.int .i64 yk) ∧ W.cell? ⟨(ad.add (k * 6)).block, (ad.add (k * 6)).off + 1, none⟩ = some (.int .i64 yo) ∧ W.cell? ⟨(ad.add (k * 6)).block, (ad.add (k * 6)).off + 2, none⟩ = some (.int .i64 yv) ∧ W.cell? ⟨(ad.add (k * 6)).block, (ad.add (k * 6)).off + 3, none⟩ = some (.int .i64 yw) ∧ W.cell? ⟨(ad.add (k * 6)).block, (ad.add (k * 6)).off + 4, none⟩ = some (.string yn) ∧ W.cell? ⟨(ad.add (k * 6)).block, (ad.add (k * 6)).off + 5, none⟩ = some (.slice yA ys.length yc) := fun W h =>
      ⟨(h.cell (p := ⟨g3, 5, none⟩) l3).trans c35, (h.cell (p := ⟨g1, 5, none⟩) l1).trans c15, (h.cell hab).trans d0, (h.cell (p := ⟨(ad.add (k * 6)).block, (ad.add (k * 6)).off + 1, none⟩) hab).trans d1, (h.cell (p := ⟨(ad.add (k * 6)).block, (ad.add (k * 6)).off + 2, none⟩) hab).trans d2, (h.cell (p := ⟨(ad.add (k * 6)).block, (ad.add (k * 6)).off + 3, none⟩) hab).trans d3, (h.cell (p := ⟨(ad.add (k * 6)).block, (ad.add (k * 6)).off + 4, none⟩) hab).trans d4, (h.cell (p := ⟨(ad.add (k * 6)).block, (ad.add (k * 6)).off + 5, none⟩) hab).trans d5⟩
     replace hL := Lib.hid hL
     replace hnext := Lib.hid hnext
     replace hx := Lib.hid hx
     replace hcall := Lib.hid hcall
     replace hb1 := Lib.hid hb1
     replace hb2 := Lib.hid hb2
     replace hb3 := Lib.hid hb3
     replace hX := Lib.hid hX
     replace hpk := Lib.hid hpk
     replace hlk := Lib.hid hlk
     replace hB := Lib.hid hB
     clear hxok hcx d0 d1 d2 d3 d4 d5 c35 l1 l3 hab hp
     go_upto_region 8 with (fail)
     clear c15
     have hBd := (Below.refl wr.heap.size wr).drew
     refine wp_region_lead 11 (by kernel_rfl) (by kernel_rfl) (by kernel_rfl) ?_
     refine wpAny_of_held (S := fun W => Below wr.heap.size wr W) _ _ _ _ ?_
     refine takes [0, 1, 2, 3, 4, 5, 6, 7, 8] (fuel := 2) (by kernel_rfl) (fun _ _ _ _ h => h) hBd (by kernel_rfl) (fun K hK => ?_)
     repeat (refine TakesG.cons rfl (v := ?_) ?_ ?_; rotate_left; (· intro wz hSw; have hz := hL.out wz hSw; clear hSw; go_simp; try with_reducible rfl); simp only [Act.put, List.setIfInBounds_toArray, List.set_cons_zero, List.set_cons_succ])
     refine hK.out _ ?_
     clear hK K hL
     refine callH 9 rfl (by kernel_rfl) (fun K hK => ?_)
     go_simp
     refine (hcall.out _ hBd).mono ?_
     rintro e V1 ⟨⟨_, rfl, ⟨⟨⟨zk, zo, zv, zw, zn⟩, ⟨zA, zc⟩, zs⟩, rfl, hzp, hzo, hzh⟩⟩, hB2⟩
     simp only [Ex.cells, eR]
     have hB3 := below_and hBd hB2
     refine hK.out _ _ hB3 (fun _ => ?_)
     clear hK K
     refine callH 10 rfl (by kernel_rfl) (fun K hK => ?_)
     go_simp
     have hBz := new_below V1 (.cells #[.int .i64 zk, .int .i64 zo, .int .i64 zv, .int .i64 zw, .string zn, .slice zA zs.length zc] 70)
     have hB4 := below_and hB3 hBz
     have hrd := Reads.of_own (World.ownsRow_lit (base := V1.heap.size) (e := 70) (size := 6) V1 #[.int .i64 zk, .int .i64 zo, .int .i64 zv, .int .i64 zw, .string zn, .slice zA zs.length zc] 1 (Nat.le_refl _) (by simp [maxLen]) rfl)
     have hzf := hzo.keep (only_of_below [] hBz) (by simp)
     refine hK.out _ _ hB4 (fun _ => wpAnyH_done (by kernel_rfl) ?_ _)
     clear hK K hBz
     have hXf := hX.out.new hB4
     have hb1f := hb1.out.below hB4 hb1.out.lt
     have hb2f := hb2.out.below hB4 hb2.out.lt
     have hb3f := hb3.out.below hB4 hb3.out.lt
     have hBf := below_and hB.out hB4
     have hX9 : ∀ b ∈ (Loc.mk A c).fp, W0.heap.size ≤ b ∧ b < wr.heap.size := fun b hb => hX.out.1.ge b (List.mem_append_left _ hb)
     have hs4 := hB4.size
     have hg := hgs.out
     generalize V1.alloc (.cells #[.int .i64 zk, .int .i64 zo, .int .i64 zv, .int .i64 zw, .string zn, .slice zA zs.length zc] 70) = V2 at *
     change wpAny _ _ _ _ 3 _ _ _
     refine wpAny_of_held (S := fun _ => True) _ _ _ _ ?_
     refine callH 11 rfl (by kernel_rfl) (fun K hK => ?_)
     refine step_append_any (w := V2) (by rfl) (.tmp 35) (.tmp 44) 68 (by rfl) W0.heap.size 70 i0 _ 6 72 Tryz.underlying68 hi.out hz0.out hz1.out hz2.out rfl (by omega) (.slice A k c) k (cellsL eR ls) (by rfl) (by have h1 := hXf.1.1; dsimp only at h1; rw [hlk.out] at h1; exact h1) _ (some ⟨V1.heap.size, 0, none⟩) 1 1 (cellsL eR [(Ex.mk ⟨zk, zo, zv, zw, zn⟩ (⟨zA, zc⟩ : Loc) zs)]) (by rfl) (by simpa [cellsL, Ex.cells, eR] using hrd) (cellsL_one _ _) (by simp only [maxLen]; omega) (by omega) (by omega) ?_
     intro v8 V3 hown8 hg8 hb8
     obtain ⟨A', c', rfl, hX8⟩ := append_lexB (L := (Ex.mk ⟨zk, zo, zv, zw, zn⟩ (⟨zA, zc⟩ : Loc) zs)) hlk.out hXf (hzf.base_le (by have : wr.heap.size ≤ wr.drew.heap.size := Nat.le_refl _; omega)) (fun b hb hm => by have h1 := (hX9 b hb).2; have h2 : wr.heap.size ≤ b := (hzo.ge b hm).1; omega) hown8 hg8 hb8
     have hne : ∀ b, (Value.slice A k c).ownBlock = some b → W0.heap.size ≤ b := fun b hb => (hX9 b ((own_fp ⟨A, c⟩ k b).2 hb)).1
     have hb1g := hb1f.grown hg8 (fun e => by have := hne g1 e.symm; omega)
     have hb2g := hb2f.grown hg8 (fun e => by have := hne g2 e.symm; omega)
     have hb3g := hb3f.grown hg8 (fun e => by have := hne g3 e.symm; omega)
     have hBh := hBf.grown hg8 (by have := hBf.size; omega) (fun q hq => by have := hne q hq; omega)
     have c35 := hb3g.cell 5
     have f35 := hb3g.frozen 5
     simp only [List.getElem?_toArray, List.getElem?_cons_zero, List.getElem?_cons_succ] at c35
     have l35 := hb3g.lt
     have ho3 : Only [g3] V3 (V3.setCell ⟨g3, 5, none⟩ (.slice A' (k + 1) c')) := (Only.refl [g3] V3).setCell (.inl (by simp)) _
     have hst3 := hb3g.set_ 5 (.slice A' (k + 1) c')
     simp only [List.setIfInBounds_toArray, List.set_cons_zero, List.set_cons_succ] at hst3
     have hstX := Lib.hid (hX8.only ho3 (by omega))
     have hst1 := Lib.hid (hb1g.only ho3 (by simp; omega))
     have hst2 := Lib.hid (hb2g.only ho3 (by simp; omega))
     have hstB := Lib.hid (hBh.trans (ho3.below (by have := hBh.size; omega) (by simp; omega)))
     have hstS := Lib.hid (show W0.heap.size ≤ (V3.setCell ⟨g3, 5, none⟩ (.slice A' (k + 1) c')).heap.size from by have := ho3.size; have := hg8.size; omega)
     replace hst3 := Lib.hid hst3
     replace hzp := Lib.hid hzp
     clear hX8 hne hb1g hb2g hb3g hBh ho3 hown8 hg8 hb8 hrd hzf hzo hzh hXf hb1f hb2f hb3f hBf hX9 hB2 hB3 hB4 hs4 hg
     refine hK.out _ _ trivial (fun _ => ?_)
     clear hK K
     refine callH 12 rfl (by kernel_rfl) (fun K hK => ?_)
     go_simp
     refine hK.out _ _ trivial (fun _ => ?_)
     clear hK K
     refine callH 13 rfl (by kernel_rfl) (fun K hK => ?_)
     go_simp
     refine hK.out _ _ trivial (fun _ => wpAnyH_done (by kernel_rfl) ?_ _)
     clear hK K c35 f35 l35
     go_wp2_with fail
     go_roundw
     case rel =>
      refine ⟨k + 1, A', c', ls ++ [(Ex.mk ⟨zk, zo, zv, zw, zn⟩ (⟨zA, zc⟩ : Loc) zs)], by go_num, by omega, by rw [List.length_append, hlk.out]; rfl, ?_, hst1.out, hst2.out, hst3.out, hstX.out, hstB.out, hstS.out⟩
      rw [hnext.out, plains_map, List.map_append, ← plains_map, hpk.out]
      show _ ++ [(Ex.mk ⟨zk, zo, zv, zw, zn⟩ (⟨zA, zc⟩ : Loc) zs).plain] = _
      rw [hzp.out]
     case measure => simp [intOf]; omega
    ·obtain rfl : k = n := by omega
     have hkn : ss.take k = ss := List.take_of_length_le (by have := hn.out; omega)
     rw [hkn] at hpk
     have c15 := hb1.cell 5
     simp only [List.getElem?_toArray, List.getElem?_cons_zero, List.getElem?_cons_succ] at c15
     obtain ⟨cs, hcs⟩ : ∃ cs : Array Value, cs = #[.int .i64 xk, .int .i64 xo, .int .i64 xv, .int .i64 xw, .string nm, .slice A k c] := ⟨_, rfl⟩
     rw [← hcs] at hb3
     have hsz6 : cs.size = 6 := by rw [hcs]; rfl
     have ho6 : cs.all (·.oneCell') = true := by rw [hcs]; simp [Value.oneCell']
     have hg := hgs.out
     have hfin := blk_put6 hb2 (vs := cs) (by rw [hsz6]; rfl)
     have hth := there_blk_at hb2 (o := 0) (n := 6) (by decide)
     have hoS : Only [g2] wr (World.setCells wr g2 0 cs.toList) := only_setCells (b := g2) cs.toList 0 wr
     have hBF := hB.trans (hoS.below (by have := hB.size; omega) (by simp; omega))
     have hXF := hX.only hoS (by omega)
     have hsF : ∀ b ∈ Lex.fp ⟨A, c⟩ ls, b < (World.setCells wr g2 0 cs.toList).heap.size := fun b hb => (hXF.1.ge b hb).2
     replace hfin := Lib.hid hfin
     replace hBF := Lib.hid hBF
     replace hXF := Lib.hid hXF
     replace hsF := Lib.hid hsF
     replace hpk := Lib.hid hpk
     replace hlk := Lib.hid hlk
     replace hcs := Lib.hid hcs
     have hb3' := hb3
     clear hoS hX hB hb1 hb2 hg
     go_wp2_with (refine wpList_load_rowW 70 (.tmp 7) rfl (by rfl) g3 rfl 70 cs (0, 0) _ hb3 Tryz.underlying70 rfl (by rw [hsz6]; kernel_rfl) ?_; refine Shut.out ?_)
     refine shut_mkX ?_
     try simp only [Act.put, List.setIfInBounds_toArray, List.set_cons_zero, List.set_cons_succ]
     refine wpList_store_mid rfl 70 (.tmp 6) (.tmp 47) rfl g2 0 cs rfl (by rfl) (by rw [hsz6]; exact hth) (by rw [hsz6]; kernel_rfl) ho6 ?_
     clear hth hb3 hb3' c15
     go_wp2_with fail
     refine bodyPost_ret (results_cell_row rfl _ _ g2 70 _ (0, 0) _ rfl hfin.out Tryz.underlying70 rfl (by rw [hsz6]; kernel_rfl)) rfl ?_
     refine ⟨⟨_, rfl, Ex.mk ⟨xk, xo, xv, xw, nm⟩ (⟨A, c⟩ : Loc) ls, ?_, ?_, (hXF.out.1).base_le (by have := hgs.out; omega), hsF.out⟩, hBF.out⟩
     ·rw [hcs.out]
      simp only [Ex.cells, eR, hlk.out]
     ·show Ex.mk _ () (plains ls) = _
      rw [hpk.out]
end Go.Proofs.YtnldbplphgfpeaaGreat
namespace Go.Proofs.YtnldbplphgfpeaaGreat
open Go Go.RowKit Go.Shelf
set_option linter.unusedVariables false
set_option linter.unusedSimpArgs false
set_option maxHeartbeats 8000000
set_option maxRecDepth 100000 in
theorem rrenameS : ∀ (ls : List (St Loc)) (lc : Loc) (f t : ByteArray) (w : World), Lst.ok eR w lc ls → szS ls ≤ 60000 →
  Calls Tryz.prog 73 #[.slice lc.A ls.length lc.c, .string f, .string t] w fun r w' => (∃ v, r = .returned v ∧ stR eR (renS (chg f t) ls) v w.heap.size w'.heap.size w') ∧ Below w.heap.size w w' := by
 intro ls
 induction ls using St.list with
 | h ls ih =>
 intro lc f t w hok hsz
 obtain ⟨n, hn⟩ : ∃ n, n = ls.length := ⟨_, rfl⟩
 have hln := szS_len ls
 have n63 : (n : Int) ≤ 60000 := by omega
 rw [← hn]
 obtain ⟨i0, hi, hz0, hz1, hz2⟩ := info_parts infoRS
 obtain ⟨i1, hi', hz0', hz1', hz2'⟩ := info_parts infoRE
 obtain ⟨lA, lc⟩ := lc
 replace hi := Lib.hid hi
 replace hz0 := Lib.hid hz0
 replace hz1 := Lib.hid hz1
 replace hz2 := Lib.hid hz2
 replace hi' := Lib.hid hi'
 replace hz0' := Lib.hid hz0'
 replace hz1' := Lib.hid hz1'
 replace hz2' := Lib.hid hz2'
 replace hn := Lib.hid hn
 replace hok := Lib.hid hok
 replace ih := Lib.hid ih
 replace hsz := Lib.hid hsz
 clear hln
 go_enter Tryz.func73, Tryz.ntmps73
 go_wp2_with fail
 go_loopw [7, 8] (fun v7 v8 wr => ∃ (k : Nat) (A : Option Addr) (c : Nat) (os : List (St Loc)), v8 = .int .i64 k ∧ k ≤ n ∧ v7 = .slice A k c ∧ os.length = k ∧ plainS os = renS (chg f t) (ls.take k) ∧ LstB eR wr w.heap.size ⟨A, c⟩ os ∧ Below w.heap.size w wr) (fun _ v8 _ => n - (intOf v8).toNat)
 case atStart => exact ⟨0, none, 0, [], rfl, Nat.zero_le _, rfl, rfl, rfl, LstB.nil _ _ _, Below.refl _ _⟩
 case round =>
  obtain ⟨k, A, c, os, rfl, hk, rfl, hlk, hpk, hX, hB⟩ := hrel
  have k0 : 0 ≤ (k : Int) := by omega
  by_cases hlt : k < n
  ·have hx : ls[k]? = some (ls[k]'(by have := hn.out; omega)) := List.getElem?_eq_getElem (by have := hn.out; omega)
   generalize ls[k]'(by have := hn.out; omega) = x at hx
   have hmem := List.mem_of_getElem? hx
   obtain ⟨ad, hA, _, _, hxok, hcx⟩ := (hok.out.all (keeps_below hB)).at hx
   have hi1 := (ih.out x hmem).1
   have hi2 := (ih.out x hmem).2
   have hxsz := szS_mem hmem
   have hszo := hsz.out
   have hnext : renS (chg f t) (ls.take (k + 1)) = renS (chg f t) (ls.take k) ++ [x.ren (chg f t)] := by
    obtain ⟨q1, q2⟩ := List.getElem?_eq_some_iff.1 hx
    rw [List.take_succ_eq_append_getElem q1, q2, renS_map, renS_map, List.map_append]
    rfl
   obtain ⟨⟨xk, xn, xb⟩, ⟨xA, xc⟩, ⟨x1, x2⟩, ⟨x3, x4⟩, xx, xt, xe⟩ := x
   simp only [St.th, St.el] at hi1 hi2
   simp only [St.sz] at hxsz
   obtain ⟨c0, c1, c2, c3, c4, c5⟩ := CellsAt.c6 hcx
   simp only [eR] at c0 c1 c2 c3 c4 c5
   obtain ⟨p1, p2, p3⟩ := hxok.parts
   have hc1 := fun w2 (h2 : Below wr.heap.size wr w2) => hi1 ⟨x1, x2⟩ f t w2 (p2.all (keeps_below h2)) (by omega)
   have hc2 := fun w2 (h2 : Below wr.heap.size wr w2) => hi2 ⟨x3, x4⟩ f t w2 (p3.all (keeps_below h2)) (by omega)
   dsimp only at hc1 hc2 hA
   have hxxs : szs xx ≤ 60000 := by omega
   have hmln := szs_len xx
   obtain ⟨m, hmx⟩ : ∃ m, m = xx.length := ⟨_, rfl⟩
   rw [← hmx] at c2
   have m63 : (m : Int) ≤ 60000 := by omega
   obtain ⟨b1, e1⟩ : ∃ b, (xk == 1) = b := ⟨_, rfl⟩
   obtain ⟨b2, e2⟩ : ∃ b, (xk == 2) = b := ⟨_, rfl⟩
   obtain ⟨b3, e3⟩ : ∃ b, (xn.toList == f.toList) = b := ⟨_, rfl⟩
   obtain ⟨b, hb⟩ : ∃ b, b = ((b1 || b2) && b3) := ⟨_, rfl⟩
   obtain ⟨nm, hnm⟩ : ∃ nm, nm = if b = true then t else xn := ⟨_, rfl⟩
   have hpl : (St.mk ⟨xk, xn, xb⟩ (⟨xA, xc⟩ : Loc) ⟨x1, x2⟩ ⟨x3, x4⟩ xx xt xe).ren (chg f t) = St.mk ⟨xk, nm, xb⟩ () () () (rens (chg f t) xx) (renS (chg f t) xt) (renS (chg f t) xe) := by
    simp only [St.ren, SHd.ren]
    congr 1
    rw [hnm, hb, ← e1, ← e2, ← e3]
    simp only [chg, Bool.and_eq_true, Bool.or_eq_true, beq_iff_eq]
    by_cases h1 : xk = 1 ∨ xk = 2 <;> by_cases h2 : xn.toList = f.toList <;> simp [h1, h2]
   rw [hpl] at hnext
   subst hA
   have k1 : (k : Int) < (n : Int) := by omega
   have hab := cell_lt c0
   have hBx := new_below wr (.cells #[.int .i64 xk, .string xn, .slice xA m xc, .int .i64 xb, .slice x1 xt.length x2, .slice x3 xe.length x4] 131)
   have hbs := Blk.new wr 131 #[.int .i64 xk, .string xn, .slice xA m xc, .int .i64 xb, .slice x1 xt.length x2, .slice x3 xe.length x4]
   have hX9 : ∀ b ∈ (Loc.mk A c).fp, w.heap.size ≤ b ∧ b < wr.heap.size := fun b hb => hX.1.ge b (List.mem_append_left _ hb)
   have hwsz : (wr.alloc (.cells #[.int .i64 xk, .string xn, .slice xA m xc, .int .i64 xb, .slice x1 xt.length x2, .slice x3 xe.length x4] 131)).heap.size = wr.heap.size + 1 := by simp
   replace hX9 := Lib.hid hX9
   replace hbs := Lib.hid hbs
   replace hnext := Lib.hid hnext
   replace hx := Lib.hid hx
   replace hc1 := Lib.hid hc1
   replace hc2 := Lib.hid hc2
   replace hBx := Lib.hid hBx
   replace hX := Lib.hid hX
   replace hpk := Lib.hid hpk
   replace hlk := Lib.hid hlk
   replace p1 := Lib.hid p1
   replace hxxs := Lib.hid hxxs
   replace hmx := Lib.hid hmx
   replace hb := Lib.hid hb
   replace hnm := Lib.hid hnm
   replace hB := Lib.hid hB
   replace hwsz := Lib.hid hwsz
   clear hxok hcx hi1 hi2 p2 p3 hszo hxsz hmln hpl
   go_upto_region 6 with (fail)
   obtain ⟨gs, hgs⟩ : ∃ g, wr.heap.size = g := ⟨_, rfl⟩
   generalize wr.alloc (.cells #[.int .i64 xk, .string xn, .slice xA m xc, .int .i64 xb, .slice x1 xt.length x2, .slice x3 xe.length x4] 131) = Wx at *
   rw [hgs]
   have hbx := hbs.out
   rw [hgs] at hbx
   replace hgs := Lib.hid hgs
   have hbx' := Lib.hid hbx
   have hc2r := Lib.hid (show wr.cell? ⟨(ad.add (k * 6)).block, (ad.add (k * 6)).off + 2, none⟩ = _ from c2)
   have habh := Lib.hid hab
   clear c0 c1 c2 c3 c4 c5 hab hbs
   obtain ⟨Wo, hWo⟩ : ∃ x, x = wr := ⟨_, rfl⟩
   subst hWo
   go_cut [34] (fun v34 wx => v34 = .bool b ∧ Wx = wx)
   case first =>
    have d0 := hbx.cell 0
    have d1 := hbx.cell 1
    simp only [List.getElem?_toArray, List.getElem?_cons_zero, List.getElem?_cons_succ] at d0 d1
    clear hbx
    cases b1 <;> cases b2
    ·go_wp2
     go_meet
     exact ⟨by rw [hb.out]; rfl, rfl⟩
    all_goals
     go_wp2
     go_meet
     exact ⟨by rw [hb.out]; simp, rfl⟩
   case rest =>
    obtain ⟨rfl, rfl⟩ := hcut
    clear e1 e2 e3 hb hbx
    go_upto_if 34 with (fail)
    go_cut [34] (fun v34 wx => Blk wx gs 131 #[.int .i64 xk, .string nm, .slice xA m xc, .int .i64 xb, .slice x1 xt.length x2, .slice x3 xe.length x4] ∧ Only [gs] Wx wx)
    case first =>
     have h3 := hbx'.out
     have d1 := h3.cell 1
     have f1 := h3.frozen 1
     simp only [List.getElem?_toArray, List.getElem?_cons_zero, List.getElem?_cons_succ] at d1
     have hst := h3.set_ 1 (.string t)
     simp only [List.setIfInBounds_toArray, List.set_cons_zero, List.set_cons_succ] at hst
     replace hst := Lib.hid hst
     clear h3
     cases b
     ·go_wp2
      go_meet
      rw [hnm.out]
      exact ⟨hbx'.out, Only.refl _ _⟩
     ·go_wp2
      go_meet
      rw [hnm.out]
      exact ⟨hst.out, (Only.refl [gs] Wx).setCell (.inl (by simp)) _⟩
    case rest =>
     obtain ⟨hb3, ho3⟩ := hcut
     rename World => W1
     clear hbx'
     have hsx := hwsz.out
     have hgo := hgs.out
     have hs1 := ho3.size
     have hB1 : Below Wo.heap.size Wo W1 := hBx.out.trans (ho3.below hBx.out.size (by simp; omega))
     have c5 := hb3.cell 2
     have f5 := hb3.frozen 2
     have l5 := hb3.lt
     simp only [List.getElem?_toArray, List.getElem?_cons_zero, List.getElem?_cons_succ] at c5
     have ho4 : Only [gs] W1 (W1.setCell ⟨gs, 2, none⟩ (.slice none 0 0)) := (Only.refl [gs] W1).setCell (.inl (by simp)) _
     have hb4 := hb3.set_ 2 (.slice none 0 0)
     simp only [List.setIfInBounds_toArray, List.set_cons_zero, List.set_cons_succ] at hb4
     replace hb4 := Lib.hid hb4
     replace hB1 := Lib.hid (hB1.trans (ho4.below hB1.size (by simp; omega)))
     have hs2 := Lib.hid (Nat.le_trans hs1 ho4.size)
     clear hb3 ho3 ho4 hs1 hsx hgo
     go_wp2_with fail
     generalize W1.setCell ⟨gs, 2, none⟩ (.slice none 0 0) = W2 at *
     clear c5 f5 l5
     go_loopw [10] (fun v10 wr => ∃ (j : Nat) (A' : Option Addr) (c' : Nat) (xs : List (Ex Loc)), v10 = .int .i64 j ∧ j ≤ m ∧ xs.length = j ∧ plains xs = rens (chg f t) (xx.take j) ∧ Blk wr gs 131 #[.int .i64 xk, .string nm, .slice A' j c', .int .i64 xb, .slice x1 xt.length x2, .slice x3 xe.length x4] ∧ LexB eR wr Wx.heap.size ⟨A', c'⟩ xs ∧ Below Wo.heap.size Wo wr ∧ Wx.heap.size ≤ wr.heap.size) (fun v10 _ => m - (intOf v10).toNat)
     case atStart => exact ⟨0, none, 0, [], rfl, Nat.zero_le _, rfl, rfl, hb4.out, LexB.nil _ _ _, hB1.out, hs2.out⟩
     case round =>
      obtain ⟨j, A', c', xs, rfl, hj, hlj, hpj, hbg, hXx, hB6, hW6⟩ := hrel
      have j0 : 0 ≤ (j : Int) := by omega
      have c52 := (hB6.cell (p := ⟨(ad.add (k * 6)).block, (ad.add (k * 6)).off + 2, none⟩) habh.out).trans hc2r.out
      by_cases hjl : j < m
      ·have hy : xx[j]? = some (xx[j]'(by have := hmx.out; omega)) := List.getElem?_eq_getElem (by have := hmx.out; omega)
       generalize xx[j]'(by have := hmx.out; omega) = y at hy
       have hmemy := List.mem_of_getElem? hy
       obtain ⟨bd, hA2, _, _, hyok, hcy⟩ := (p1.out.all (keeps_below hB6)).at hy
       have hcall := fun w2 (h2 : Below wr.heap.size wr w2) => rrename y f t w2 (hyok.below h2) (by have := szs_mem hmemy; have := hxxs.out; omega)
       have hnexty : rens (chg f t) (xx.take (j + 1)) = rens (chg f t) (xx.take j) ++ [y.ren (chg f t)] := by
        obtain ⟨q1, q2⟩ := List.getElem?_eq_some_iff.1 hy
        rw [List.take_succ_eq_append_getElem q1, q2, rens_map, rens_map, List.map_append]
        rfl
       obtain ⟨p, hp⟩ : ∃ p, p = y.ren (chg f t) := ⟨_, rfl⟩
       rw [← hp] at hnexty hcall
       obtain ⟨⟨yk, yo, yv, yw, yn⟩, ⟨yA, yc⟩, ys⟩ := y
       obtain ⟨d0, d1, d2, d3, d4, d5⟩ := CellsAt.c6 hcy
       dsimp only at hA2
       simp only [aggRX, Ex.cells, eR] at d0 d1 d2 d3 d4 d5 hcall
       subst hA2
       have j1 : (j : Int) < (m : Int) := by omega
       have hbb := cell_lt d0
       have haw : (ad.add (k * 6)).block < wr.heap.size := by have := cell_lt c52; exact this
       have g2 := hbg.cell 2
       simp only [List.getElem?_toArray, List.getElem?_cons_zero, List.getElem?_cons_succ] at g2
       have lg := hbg.lt
       have hL : ∀ W, Below wr.heap.size wr W → W.cell? ⟨gs, 2, none⟩ = some (.slice A' j c') ∧ W.cell? ⟨(ad.add (k * 6)).block, (ad.add (k * 6)).off + 2, none⟩ = some (.slice (some bd) m xc) ∧ W.cell? (bd.add (j * 6)) = some (.int .i64 yk) ∧ W.cell? ⟨(bd.add (j * 6)).block, (bd.add (j * 6)).off + 1, none⟩ = some (.int .i64 yo) ∧ W.cell? ⟨(bd.add (j * 6)).block, (bd.add (j * 6)).off + 2, none⟩ = some (.int .i64 yv) ∧ W.cell? ⟨(bd.add (j * 6)).block, (bd.add (j * 6)).off + 3, none⟩ = some (.int .i64 yw) ∧ W.cell? ⟨(bd.add (j * 6)).block, (bd.add (j * 6)).off + 4, none⟩ = some (.string yn) ∧ W.cell? ⟨(bd.add (j * 6)).block, (bd.add (j * 6)).off + 5, none⟩ = some (.slice yA ys.length yc) := fun W h =>
        ⟨(h.cell (p := ⟨gs, 2, none⟩) lg).trans g2, (h.cell (p := ⟨(ad.add (k * 6)).block, (ad.add (k * 6)).off + 2, none⟩) haw).trans c52, (h.cell hbb).trans d0, (h.cell (p := ⟨(bd.add (j * 6)).block, (bd.add (j * 6)).off + 1, none⟩) hbb).trans d1, (h.cell (p := ⟨(bd.add (j * 6)).block, (bd.add (j * 6)).off + 2, none⟩) hbb).trans d2, (h.cell (p := ⟨(bd.add (j * 6)).block, (bd.add (j * 6)).off + 3, none⟩) hbb).trans d3, (h.cell (p := ⟨(bd.add (j * 6)).block, (bd.add (j * 6)).off + 4, none⟩) hbb).trans d4, (h.cell (p := ⟨(bd.add (j * 6)).block, (bd.add (j * 6)).off + 5, none⟩) hbb).trans d5⟩
       replace hL := Lib.hid hL
       replace hnexty := Lib.hid hnexty
       replace hy := Lib.hid hy
       replace hcall := Lib.hid hcall
       replace hbg := Lib.hid hbg
       replace hXx := Lib.hid hXx
       replace hpj := Lib.hid hpj
       replace hlj := Lib.hid hlj
       replace hB6 := Lib.hid hB6
       clear hyok hcy d0 d1 d2 d3 d4 d5 g2 lg hbb hp
       go_upto_region 12 with (fail)
       clear c52 haw
       have hBd := (Below.refl wr.heap.size wr).drew
       refine wp_region_lead 14 (by kernel_rfl) (by kernel_rfl) (by kernel_rfl) ?_
       refine wpAny_of_held (S := fun W => Below wr.heap.size wr W) _ _ _ _ ?_
       refine takes [0, 1, 2, 3, 4, 5, 6, 7, 8, 9, 10, 11] (fuel := 2) (by kernel_rfl) (fun _ _ _ _ h => h) hBd (by kernel_rfl) (fun K hK => ?_)
       repeat (refine TakesG.cons rfl (v := ?_) ?_ ?_; rotate_left; (· intro wz hSw; have hz := hL.out wz hSw; clear hSw; go_simp; try with_reducible rfl); simp only [Act.put, List.setIfInBounds_toArray, List.set_cons_zero, List.set_cons_succ])
       refine hK.out _ ?_
       clear hK K hL
       refine callH 12 rfl (by kernel_rfl) (fun K hK => ?_)
       go_simp
       refine (hcall.out _ hBd).mono ?_
       rintro e V1 ⟨⟨_, rfl, ⟨⟨⟨zk, zo, zv, zw, zn⟩, ⟨zA, zc⟩, zs⟩, rfl, hzp, hzo, hzh⟩⟩, hB2⟩
       simp only [Ex.cells, eR]
       have hB3 := below_and hBd hB2
       refine hK.out _ _ hB3 (fun _ => ?_)
       clear hK K
       refine callH 13 rfl (by kernel_rfl) (fun K hK => ?_)
       go_simp
       have hBz := new_below V1 (.cells #[.int .i64 zk, .int .i64 zo, .int .i64 zv, .int .i64 zw, .string zn, .slice zA zs.length zc] 70)
       have hB4 := below_and hB3 hBz
       have hrd := Reads.of_own (World.ownsRow_lit (base := V1.heap.size) (e := 70) (size := 6) V1 #[.int .i64 zk, .int .i64 zo, .int .i64 zv, .int .i64 zw, .string zn, .slice zA zs.length zc] 1 (Nat.le_refl _) (by simp [maxLen]) rfl)
       have hzf := hzo.keep (only_of_below [] hBz) (by simp)
       refine hK.out _ _ hB4 (fun _ => wpAnyH_done (by kernel_rfl) ?_ _)
       clear hK K hBz
       have hXf := hXx.out.new hB4
       have hbf := hbg.out.below hB4 hbg.out.lt
       have hBf := below_and hB6.out hB4
       have hX8 : ∀ b ∈ (Loc.mk A' c').fp, Wx.heap.size ≤ b ∧ b < wr.heap.size := fun b hb => hXx.out.1.ge b (List.mem_append_left _ hb)
       have hs4 := hB4.size
       have hg := hgs.out
       have hgx := hwsz.out
       generalize V1.alloc (.cells #[.int .i64 zk, .int .i64 zo, .int .i64 zv, .int .i64 zw, .string zn, .slice zA zs.length zc] 70) = V2 at *
       change wpAny _ _ _ _ 3 _ _ _
       refine wpAny_of_held (S := fun _ => True) _ _ _ _ ?_
       refine callH 14 rfl (by kernel_rfl) (fun K hK => ?_)
       refine step_append_any (w := V2) (by rfl) (.tmp 49) (.tmp 61) 68 (by rfl) Wx.heap.size 70 i1 _ 6 72 Tryz.underlying68 hi'.out hz0'.out hz1'.out hz2'.out rfl (by omega) (.slice A' j c') j (cellsL eR xs) (by rfl) (by have h1 := hXf.1.1; dsimp only at h1; rw [hlj.out] at h1; exact h1) _ (some ⟨V1.heap.size, 0, none⟩) 1 1 (cellsL eR [(Ex.mk ⟨zk, zo, zv, zw, zn⟩ (⟨zA, zc⟩ : Loc) zs)]) (by rfl) (by simpa [cellsL, Ex.cells, eR] using hrd) (cellsL_one _ _) (by simp only [maxLen]; omega) (by omega) (by omega) ?_
       intro v8 V3 hown8 hg8 hb8
       obtain ⟨A2, c2, rfl, hX2⟩ := append_lexB (L := (Ex.mk ⟨zk, zo, zv, zw, zn⟩ (⟨zA, zc⟩ : Loc) zs)) hlj.out hXf (hzf.base_le (by have : wr.heap.size ≤ wr.drew.heap.size := Nat.le_refl _; omega)) (fun b hb hm => by have h1 := (hX8 b hb).2; have h2 : wr.heap.size ≤ b := (hzo.ge b hm).1; omega) hown8 hg8 hb8
       have hne : ∀ b, (Value.slice A' j c').ownBlock = some b → Wx.heap.size ≤ b := fun b hb => (hX8 b ((own_fp ⟨A', c'⟩ j b).2 hb)).1
       have hb5 := hbf.grown hg8 (fun e => by have := hne gs e.symm; omega)
       have hBh := hBf.grown hg8 (by have := hBf.size; omega) (fun q hq => by have := hne q hq; omega)
       have c35 := hb5.cell 2
       have f35 := hb5.frozen 2
       simp only [List.getElem?_toArray, List.getElem?_cons_zero, List.getElem?_cons_succ] at c35
       have l35 := hb5.lt
       have ho3 : Only [gs] V3 (V3.setCell ⟨gs, 2, none⟩ (.slice A2 (j + 1) c2)) := (Only.refl [gs] V3).setCell (.inl (by simp)) _
       have hst3 := hb5.set_ 2 (.slice A2 (j + 1) c2)
       simp only [List.setIfInBounds_toArray, List.set_cons_zero, List.set_cons_succ] at hst3
       have hstX := Lib.hid (hX2.only ho3 (by omega))
       have hstB := Lib.hid (hBh.trans (ho3.below (by have := hBh.size; omega) (by simp; omega)))
       have hstS := Lib.hid (show Wx.heap.size ≤ (V3.setCell ⟨gs, 2, none⟩ (.slice A2 (j + 1) c2)).heap.size from by have := ho3.size; have := hg8.size; omega)
       replace hst3 := Lib.hid hst3
       replace hzp := Lib.hid hzp
       clear hX2 hne hb5 hBh ho3 hown8 hg8 hb8 hrd hzf hzo hzh hXf hbf hBf hX8 hB2 hB3 hB4 hs4 hg hgx
       refine hK.out _ _ trivial (fun _ => ?_)
       clear hK K
       refine callH 15 rfl (by kernel_rfl) (fun K hK => ?_)
       go_simp
       refine hK.out _ _ trivial (fun _ => ?_)
       clear hK K
       refine callH 16 rfl (by kernel_rfl) (fun K hK => ?_)
       go_simp
       refine hK.out _ _ trivial (fun _ => wpAnyH_done (by kernel_rfl) ?_ _)
       clear hK K c35 f35 l35
       go_wp2_with fail
       go_roundw
       case rel =>
        refine ⟨j + 1, A2, c2, xs ++ [(Ex.mk ⟨zk, zo, zv, zw, zn⟩ (⟨zA, zc⟩ : Loc) zs)], by go_num, by omega, by rw [List.length_append, hlj.out]; rfl, ?_, hst3.out, hstX.out, hstB.out, hstS.out⟩
        rw [hnexty.out, plains_map, List.map_append, ← plains_map, hpj.out]
        show _ ++ [(Ex.mk ⟨zk, zo, zv, zw, zn⟩ (⟨zA, zc⟩ : Loc) zs).plain] = _
        rw [hzp.out]
       case measure => simp [intOf]; omega
      ·obtain rfl : j = m := by omega
       have hjm : xx.take j = xx := List.take_of_length_le (by have := hmx.out; omega)
       rw [hjm] at hpj
       clear hjm
       have q4 := hbg.cell 4
       have q5 := hbg.cell 5
       simp only [List.getElem?_toArray, List.getElem?_cons_zero, List.getElem?_cons_succ] at q4 q5
       have lg := hbg.lt
       have hL : ∀ W, Below wr.heap.size wr W → W.cell? ⟨gs, 4, none⟩ = some (.slice x1 xt.length x2) ∧ W.cell? ⟨gs, 5, none⟩ = some (.slice x3 xe.length x4) := fun W h => ⟨(h.cell (p := ⟨gs, 4, none⟩) lg).trans q4, (h.cell (p := ⟨gs, 5, none⟩) lg).trans q5⟩
       have hBd := (Below.refl wr.heap.size wr).drew
       have hBy := below_and hB6 hBd
       replace hL := Lib.hid hL
       replace hbg := Lib.hid hbg
       replace hXx := Lib.hid hXx
       replace hpj := Lib.hid hpj
       replace hlj := Lib.hid hlj
       replace hB6 := Lib.hid hB6
       clear q4 q5 lg
       go_upto_region 13 with (fail)
       clear c52
       refine wp_region_lead 11 (by kernel_rfl) (by kernel_rfl) (by kernel_rfl) ?_
       refine wpAny_of_held (S := fun W => Below wr.heap.size wr W) _ _ _ _ ?_
       refine takes [0, 1, 2, 3, 5, 6, 7, 8] (fuel := 3) (by kernel_rfl) (fun _ _ _ _ h => h) hBd (by kernel_rfl) (fun K hK => ?_)
       repeat (refine TakesG.cons rfl (v := ?_) ?_ ?_; rotate_left; (· intro wz hSw; have hz := hL.out wz hSw; clear hSw; go_simp; try with_reducible rfl); simp only [Act.put, List.setIfInBounds_toArray, List.set_cons_zero, List.set_cons_succ])
       refine hK.out _ ?_
       clear hK K hL
       refine callH 4 rfl (by kernel_rfl) (fun K hK => ?_)
       go_simp
       refine (hc1.out _ hBy).mono ?_
       rintro e V1 ⟨⟨_, rfl, TA, tc, ts, rfl, htp, hto, hth⟩, hb1⟩
       have hB2 := below_and hBd hb1
       refine hK.out _ _ hB2 (fun _ => ?_)
       clear hK K
       refine takes [10] (fuel := 1) (by kernel_rfl) (fun _ _ _ _ h => h) hB2 (by kernel_rfl) (fun K hK => ?_)
       refine TakesG.cons rfl (v := ?_) ?_ ?_
       rotate_left
       ·intro wz hSw; clear hSw; go_simp; try with_reducible rfl
       simp only [Act.put, List.setIfInBounds_toArray, List.set_cons_zero, List.set_cons_succ]
       refine hK.out _ ?_
       clear hK K
       refine callH 9 rfl (by kernel_rfl) (fun K hK => ?_)
       go_simp
       refine (hc2.out _ (below_and hBy hb1)).mono ?_
       rintro e V2 ⟨⟨_, rfl, EA, ec, es, rfl, hep, heo, heh⟩, hb2⟩
       have hB3 := below_and hB2 hb2
       refine hK.out _ _ hB3 (fun _ => wpAnyH_done (by kernel_rfl) ?_ _)
       clear hK K
       have hbv := hbg.out.below hB3 hbg.out.lt
       have hXv := hXx.out.new hB3
       have hBv := below_and hB6.out hB3
       have htv := hto.new hb2
       have hw1 : wr.heap.size ≤ V2.heap.size := hB3.size
       have hg := hgs.out
       have hgx := hwsz.out
       have hd1 := hb1.size
       clear hb1 hb2 hB2 hB3 hBy hBd hto hth
       change wpAny _ _ _ _ 3 _ _ _
       refine wpAny_of_held (S := fun _ => True) _ _ _ _ ?_
       have q4 := hbv.cell 4
       have f4 := hbv.frozen 4
       have lg := hbv.lt
       simp only [List.getElem?_toArray, List.getElem?_cons_zero, List.getElem?_cons_succ] at q4
       have hbv3 := hbv.set_ 4 (.slice TA ts.length tc)
       have ho3 : Only [gs] V2 (V2.setCell ⟨gs, 4, none⟩ (.slice TA ts.length tc)) := (Only.refl [gs] V2).setCell (.inl (by simp)) _
       clear hbv
       replace hbv3 := Lib.hid hbv3
       replace ho3 := Lib.hid ho3
       replace hg := Lib.hid hg
       refine callH 11 rfl (by kernel_rfl) (fun K hK => ?_)
       go_simp
       refine hK.out _ _ trivial (fun _ => ?_)
       clear hK K q4 f4 lg
       generalize V2.setCell ⟨gs, 4, none⟩ (.slice TA ts.length tc) = V3 at *
       replace hbv3 := hbv3.out
       simp only [List.setIfInBounds_toArray, List.set_cons_zero, List.set_cons_succ] at hbv3
       refine callH 12 rfl (by kernel_rfl) (fun K hK => ?_)
       go_simp
       refine hK.out _ _ trivial (fun _ => ?_)
       clear hK K
       have q5 := hbv3.cell 5
       have f5 := hbv3.frozen 5
       have lg := hbv3.lt
       simp only [List.getElem?_toArray, List.getElem?_cons_zero, List.getElem?_cons_succ] at q5
       have hbv4 := hbv3.set_ 5 (.slice EA es.length ec)
       have ho4 : Only [gs] V3 (V3.setCell ⟨gs, 5, none⟩ (.slice EA es.length ec)) := (Only.refl [gs] V3).setCell (.inl (by simp)) _
       clear hbv3
       replace hbv4 := Lib.hid hbv4
       replace ho4 := Lib.hid ho4
       refine callH 13 rfl (by kernel_rfl) (fun K hK => ?_)
       go_simp
       refine hK.out _ _ trivial (fun _ => wpAnyH_done (by kernel_rfl) ?_ _)
       clear hK K q5 f5 lg
       generalize V3.setCell ⟨gs, 5, none⟩ (.slice EA es.length ec) = V4 at *
       replace hbv4 := hbv4.out
       simp only [List.setIfInBounds_toArray, List.set_cons_zero, List.set_cons_succ] at hbv4
       replace hg := hg.out
       have hXx4 := (hXv.only ho3.out (by omega)).only ho4.out (by omega)
       have ht4 := (htv.onlyG ho3.out (fun hm => by have h1 : wr.heap.size ≤ gs := (htv.ge gs hm).1; omega)).onlyG ho4.out (fun hm => by have h1 : wr.heap.size ≤ gs := (htv.ge gs hm).1; omega)
       have he4 := (heo.onlyG ho3.out (fun hm => by have h1 := (heo.ge gs hm).1; have h2 : wr.heap.size ≤ V1.heap.size := hd1; omega)).onlyG ho4.out (fun hm => by have h1 := (heo.ge gs hm).1; have h2 : wr.heap.size ≤ V1.heap.size := hd1; omega)
       have hB3 := hBv.trans (ho3.out.below hBv.size (by simp; omega))
       have hB4 := hB3.trans (ho4.out.below hB3.size (by simp; omega))
       have hV := Nat.le_trans ho3.out.size ho4.out.size
       clear hXv htv heo hBv hB3 ho3 ho4 heh
       have z0 := hbv4.cell 0
       have z1 := hbv4.cell 1
       have z2 := hbv4.cell 2
       have z3 := hbv4.cell 3
       have z4 := hbv4.cell 4
       have z5 := hbv4.cell 5
       simp only [List.getElem?_toArray, List.getElem?_cons_zero, List.getElem?_cons_succ] at z0 z1 z2 z3 z4 z5
       have hgl := hbv4.lt
       have hBz := new_below V4 (.cells #[.int .i64 xk, .string nm, .slice A' j c', .int .i64 xb, .slice TA ts.length tc, .slice EA es.length ec] 131)
       have hrd := Reads.of_own (World.ownsRow_lit (base := V4.heap.size) (e := 131) (size := 6) V4 #[.int .i64 xk, .string nm, .slice A' j c', .int .i64 xb, .slice TA ts.length tc, .slice EA es.length ec] 1 (Nat.le_refl _) (by simp [maxLen]) rfl)
       have hBy := below_and hB4 hBz
       have hXz := hX.out.new hBy
       have hXq := hXx4.new hBz
       have htz := ht4.new hBz
       have hez := he4.new hBz
       have hBw := below_and hB.out hBy
       have hws : w.heap.size ≤ Wo.heap.size := hB.out.size
       have hLo : (St.mk ⟨xk, nm, xb⟩ (⟨A', c'⟩ : Loc) ⟨TA, tc⟩ ⟨EA, ec⟩ xs ts es).own eR (V4.alloc (.cells #[.int .i64 xk, .string nm, .slice A' j c', .int .i64 xb, .slice TA ts.length tc, .slice EA es.length ec] 131)) w.heap.size := ⟨hXq.1.base_le (by omega), htz.base_le (by show _ ≤ wr.heap.size; omega), hez.base_le (by have h2 : wr.heap.size ≤ V1.heap.size := hd1; omega)⟩
       have hdj : ∀ b ∈ (Loc.mk A c).fp, b ∉ (St.mk ⟨xk, nm, xb⟩ (⟨A', c'⟩ : Loc) ⟨TA, tc⟩ ⟨EA, ec⟩ xs ts es).fp := fun b hb hm => by
        have h1 := (hX9.out b hb).2
        simp only [St.fp, List.mem_append] at hm
        rcases hm with hm | hm | hm
        ·have := (hXq.1.ge b (List.mem_append.2 hm)).1; omega
        ·have : wr.heap.size ≤ b := (htz.ge b (List.mem_append.2 hm)).1; omega
        ·have := (hez.ge b (List.mem_append.2 hm)).1; have h2 : wr.heap.size ≤ V1.heap.size := hd1; omega
       have hszz := hBw.size
       have hLp : (St.mk ⟨xk, nm, xb⟩ (⟨A', c'⟩ : Loc) ⟨TA, tc⟩ ⟨EA, ec⟩ xs ts es).plain = St.mk ⟨xk, nm, xb⟩ () () () (rens (chg f t) xx) (renS (chg f t) xt) (renS (chg f t) xe) := by
        simp only [St.plain, hpj.out, htp, hep]
       have hXr : (V4.alloc (.cells #[.int .i64 xk, .string nm, .slice A' j c', .int .i64 xb, .slice TA ts.length tc, .slice EA es.length ec] 131)).ownsRow w.heap.size 131 6 (.slice A k c) k (cellsS eR os) := by
        have h1 := hXz.1.1
        dsimp only at h1
        rw [hlk.out] at h1
        exact h1
       replace hXz := Lib.hid hXz
       replace hLo := Lib.hid hLo
       replace hdj := Lib.hid hdj
       replace hLp := Lib.hid hLp
       replace hBw := Lib.hid hBw
       replace hg := Lib.hid hg
       replace hgx := Lib.hid hgx
       clear hXq htz hez hBy hXx4 ht4 he4 hB4 hBz hbv4 hB6 hB1 hpj hXx hbg hd1 hV hw1 hws
       go_wp2_with (at_builtin; refine wpList_append_any _ rfl (.tmp 76) (.tmp 78) 73 rfl w.heap.size 131 i0 _ 6 104 Tryz.underlying73 hi.out hz0.out hz1.out hz2.out rfl (by omega) (.slice A k c) k (cellsS eR os) rfl hXr _ (some ⟨V4.heap.size, 0, none⟩) 1 1 (cellsS eR [(St.mk ⟨xk, nm, xb⟩ (⟨A', c'⟩ : Loc) ⟨TA, tc⟩ ⟨EA, ec⟩ xs ts es)]) rfl (by simpa [cellsS, St.cells, eR, hlj.out] using hrd) (cellsS_one _ _) (by simp only [maxLen]; omega) (by omega) hszz ?_; intro v8 V5 hown8 hg8 hb8)
       go_roundw
       case rel =>
        obtain ⟨A2, cc2, rfl, hX2⟩ := append_lstB (L := (St.mk ⟨xk, nm, xb⟩ (⟨A', c'⟩ : Loc) ⟨TA, tc⟩ ⟨EA, ec⟩ xs ts es)) hlk.out hXz.out hLo.out hdj.out hown8 hg8 hb8
        refine ⟨k + 1, A2, cc2, os ++ [(St.mk ⟨xk, nm, xb⟩ (⟨A', c'⟩ : Loc) ⟨TA, tc⟩ ⟨EA, ec⟩ xs ts es)], by go_num, by omega, rfl, by rw [List.length_append, hlk.out]; rfl, ?_, hX2, hBw.out.grown hg8 hszz (fun q hq => (hXr.lt q hq).1)⟩
        rw [hnext.out, plainS_map, List.map_append, ← plainS_map, hpk.out]
        show _ ++ [(St.mk ⟨xk, nm, xb⟩ (⟨A', c'⟩ : Loc) ⟨TA, tc⟩ ⟨EA, ec⟩ xs ts es).plain] = _
        rw [hLp.out]
       case measure => simp [intOf]; omega
  ·obtain rfl : n = k := by omega
   have hkn : ls.take n = ls := List.take_of_length_le (by have := hn.out; omega)
   rw [hkn] at hpk
   have hsF : ∀ b ∈ Lst.fp ⟨A, c⟩ os, b < wr.heap.size := fun b hb => (hX.1.ge b hb).2
   replace hsF := Lib.hid hsF
   replace hX := Lib.hid hX
   replace hpk := Lib.hid hpk
   replace hlk := Lib.hid hlk
   clear hkn
   go_wp2_with fail
   go_ret
   exact ⟨⟨_, rfl, A, c, os, by rw [hlk.out]; rfl, hpk.out, hX.out.1, hsF.out⟩, hB⟩
end Go.Proofs.YtnldbplphgfpeaaGreat
