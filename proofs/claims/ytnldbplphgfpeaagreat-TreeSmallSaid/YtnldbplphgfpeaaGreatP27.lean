/- Lemmas for salvor/salvorlaw29.TreeSmall (part 27); no condition. -/
import Derived.Test.YtnldbplphgfpeaaGreatP18
import Derived.Test.YtnldbplphgfpeaaGreatP26
namespace Go.Proofs.YtnldbplphgfpeaaGreat
open Go Go.RowKit Go.Shelf
set_option linter.unusedVariables false
set_option linter.unusedSimpArgs false
set_option maxHeartbeats 16000000
def xC : Array Value := #[.int .u8 2, .int .u8 0, .int .u32 0, .int .i64 0, .string ⟨#[120]⟩, .slice none 0 0]
def oC : Array Value := #[.int .u8 1, .int .u8 0, .int .u32 1, .int .i64 2, .string ⟨#[]⟩, .slice none 0 0]
def capC (n : Nat) (gp gx go : Nat) : Array Value := if n = 0 then #[] else if n = 12 ∨ n = 20 then #[.pointer (some ⟨go, 0, none⟩), .pointer (some ⟨gp, 0, none⟩)] else if n = 27 then #[.pointer (some ⟨gx, 0, none⟩), .pointer (some ⟨gp, 0, none⟩)] else #[.pointer (some ⟨gp, 0, none⟩)]
theorem change_any {B : Nat} {g : Nat → Nat} {W : World} (h : Bm B g (bC g) 99 W) (hW : B ≤ W.heap.size) (gx go : Nat) (hx : Blk W gx 30 xC) (ho : Blk W go 30 oC) : ∀ n, n < 28 → Calls Tryz.prog (26 + n) (capC n (g 0) gx go) W fun r W' => r = .returned (.tuple #[]) ∧ Left_ B (g 0) W W'
 | 0, _ => chg0 h hW | 1, _ => chg1 h hW | 2, _ => chg2 h hW | 3, _ => chg3 h hW | 4, _ => chg4 h hW | 5, _ => chg5 h hW | 6, _ => chg6 h hW | 7, _ => chg7 h hW | 8, _ => chg8 h hW | 9, _ => chg9 h hW
 | 10, _ => chg10 h hW | 11, _ => chg11 h hW | 12, _ => chg12 h hW go ho | 13, _ => chg13 h hW | 14, _ => chg14 h hW | 15, _ => chg15 h hW | 16, _ => chg16 h hW | 17, _ => chg17 h hW | 18, _ => chg18 h hW | 19, _ => chg19 h hW
 | 20, _ => chg20 h hW go ho | 21, _ => chg21 h hW | 22, _ => chg22 h hW | 23, _ => chg23 h hW | 24, _ => chg24 h hW | 25, _ => chg25 h hW | 26, _ => chg26 h hW | 27, _ => chg27 h hW gx hx
 | n + 28, hn => absurd hn (Nat.not_lt.2 (Nat.le_add_left 28 n))
def fnC (gp gx go : Nat) : Array Value := #[.func (.func 26) #[] #[], .func (.func 27) #[] #[.pointer (some ⟨gp, 0, none⟩)], .func (.func 28) #[] #[.pointer (some ⟨gp, 0, none⟩)], .func (.func 29) #[] #[.pointer (some ⟨gp, 0, none⟩)], .func (.func 30) #[] #[.pointer (some ⟨gp, 0, none⟩)], .func (.func 31) #[] #[.pointer (some ⟨gp, 0, none⟩)], .func (.func 32) #[] #[.pointer (some ⟨gp, 0, none⟩)], .func (.func 33) #[] #[.pointer (some ⟨gp, 0, none⟩)], .func (.func 34) #[] #[.pointer (some ⟨gp, 0, none⟩)], .func (.func 35) #[] #[.pointer (some ⟨gp, 0, none⟩)], .func (.func 36) #[] #[.pointer (some ⟨gp, 0, none⟩)], .func (.func 37) #[] #[.pointer (some ⟨gp, 0, none⟩)], .func (.func 38) #[] #[.pointer (some ⟨go, 0, none⟩), .pointer (some ⟨gp, 0, none⟩)], .func (.func 39) #[] #[.pointer (some ⟨gp, 0, none⟩)], .func (.func 40) #[] #[.pointer (some ⟨gp, 0, none⟩)], .func (.func 41) #[] #[.pointer (some ⟨gp, 0, none⟩)], .func (.func 42) #[] #[.pointer (some ⟨gp, 0, none⟩)], .func (.func 43) #[] #[.pointer (some ⟨gp, 0, none⟩)], .func (.func 44) #[] #[.pointer (some ⟨gp, 0, none⟩)], .func (.func 45) #[] #[.pointer (some ⟨gp, 0, none⟩)], .func (.func 46) #[] #[.pointer (some ⟨go, 0, none⟩), .pointer (some ⟨gp, 0, none⟩)], .func (.func 47) #[] #[.pointer (some ⟨gp, 0, none⟩)], .func (.func 48) #[] #[.pointer (some ⟨gp, 0, none⟩)], .func (.func 49) #[] #[.pointer (some ⟨gp, 0, none⟩)], .func (.func 50) #[] #[.pointer (some ⟨gp, 0, none⟩)], .func (.func 51) #[] #[.pointer (some ⟨gp, 0, none⟩)], .func (.func 52) #[] #[.pointer (some ⟨gp, 0, none⟩)], .func (.func 53) #[] #[.pointer (some ⟨gx, 0, none⟩), .pointer (some ⟨gp, 0, none⟩)]]
theorem fnC_at (gp gx go : Nat) : ∀ k, k < 28 → (fnC gp gx go)[k]? = some (.func (.func (26 + k)) #[] (capC k gp gx go))
 | 0, _ => rfl | 1, _ => rfl | 2, _ => rfl | 3, _ => rfl | 4, _ => rfl | 5, _ => rfl | 6, _ => rfl | 7, _ => rfl | 8, _ => rfl | 9, _ => rfl | 10, _ => rfl | 11, _ => rfl | 12, _ => rfl | 13, _ => rfl | 14, _ => rfl | 15, _ => rfl | 16, _ => rfl | 17, _ => rfl | 18, _ => rfl | 19, _ => rfl | 20, _ => rfl | 21, _ => rfl | 22, _ => rfl | 23, _ => rfl | 24, _ => rfl | 25, _ => rfl | 26, _ => rfl | 27, _ => rfl
 | n + 28, h => absurd h (Nat.not_lt.2 (Nat.le_add_left 28 n))
theorem Bm.below {B : Nat} {g : Nat → Nat} {C : List (Array Value)} {X : Nat} {W W' : World} (h : Bm B g C X W) (hb : Below W.heap.size W W') : Bm B g C X W' := ⟨fun i T cs hx hT hC => (h.blk i T cs hx hT hC).below hb (h.blk i T cs hx hT hC).lt, h.lo, h.ne⟩
theorem infoPg : (Tryz.prog.info? 35).map (fun i => (i.zero, i.size, i.bytes)) = some (some (.agg #[.int .i64 0, .int .i64 0, .slice none 0 0, .slice none 0 0, .slice none 0 0, .slice none 0 0, .int .u8 0, .int .u8 0, .int .u32 0, .int .i64 0, .string ⟨#[]⟩, .slice none 0 0, .slice none 0 0, .slice none 0 0, .slice none 0 0, .slice none 0 0, .int .u8 0, .int .u8 0, .int .u32 0, .int .i64 0, .string ⟨#[]⟩, .slice none 0 0]), 22, 320) := by kernel_rfl
set_option maxRecDepth 100000 in
theorem change_in (w : World) (args : Array Value) : ∀ k, k < 28 → Sem.run Tryz.prog (callFunc (26 + k) args) w = .ok (.enter (26 + k) args) w
 | 0, _ => rfl | 1, _ => rfl | 2, _ => rfl | 3, _ => rfl | 4, _ => rfl | 5, _ => rfl | 6, _ => rfl | 7, _ => rfl | 8, _ => rfl | 9, _ => rfl | 10, _ => rfl | 11, _ => rfl | 12, _ => rfl | 13, _ => rfl | 14, _ => rfl | 15, _ => rfl | 16, _ => rfl | 17, _ => rfl | 18, _ => rfl | 19, _ => rfl | 20, _ => rfl | 21, _ => rfl | 22, _ => rfl | 23, _ => rfl | 24, _ => rfl | 25, _ => rfl | 26, _ => rfl | 27, _ => rfl
 | n + 28, h => absurd h (Nat.not_lt.2 (Nat.le_add_left 28 n))
theorem blk_at {W : World} {g T T' : Nat} {cs cs' : Array Value} (h : Blk W g T cs) (hT : some T = some T') (hC : some cs = some cs') : Blk W g T' cs' := by cases hT; cases hC; exact h
def bSl (i k d : Nat) (T : TypeId) : BagOp := ⟨i, [d], fun x lo hi W => ∃ g cs, x k = .slice (some ⟨g, 0, none⟩) 1 1 ∧ x d = .agg cs ∧ Blk W g T cs ∧ lo ≤ g ∧ g < hi, fun _ _ _ _ _ _ hb ⟨g, cs, h1, h2, h3, h4⟩ => ⟨g, cs, h1, h2, h3.below hb h3.lt, h4⟩⟩
def bS0 (i k : Nat) (T : TypeId) (cs : Array Value) : BagOp := ⟨i, [], fun x lo hi W => ∃ g, x k = .slice (some ⟨g, 0, none⟩) 1 1 ∧ Blk W g T cs ∧ lo ≤ g ∧ g < hi, fun _ _ _ _ _ _ hb ⟨g, h1, h3, h4⟩ => ⟨g, h1, h3.below hb h3.lt, h4⟩⟩
theorem RowB.weak {α : Type} {own own' : World → α → Prop} {fp : α → List Nat} {cf : α → List Value} {base base' : Nat} {e : TypeId} {sz : Nat} {l : Loc} {xs : List α} {W : World} (h : RowB own fp cf base e sz l xs W) (hb : base' ≤ base) (ho : ∀ x, own W x → own' W x) : RowB own' fp cf base' e sz l xs W := ⟨own_base h.row hb, fun x hx => ho x (h.own x hx), h.ap⟩
theorem keepG (B : Nat) (x : Pg Loc) : Keep (fun W => GoodP B x W) x.fp := ⟨fun h hb => ⟨(keep_pg _ x).same h.1 hb, h.2⟩, fun h b hb => (keep_pg _ x).lt h.1 b hb⟩
theorem fill_list {α : Type} : ∀ (l : List α) (o : Nat) (z : Array α) (k : Nat), ((l.zipIdx o).foldl (fun a x => a.setIfInBounds x.2 x.1) z)[k]? = if o ≤ k ∧ k < o + l.length ∧ k < z.size then l[k - o]? else z[k]?
 | [], o, z, k => by rw [if_neg (by simp; omega)]; rfl
 | x :: l, o, z, k => by
  rw [List.zipIdx_cons, List.foldl_cons, fill_list l, Array.size_setIfInBounds, Array.getElem?_setIfInBounds]
  simp only [List.length_cons]
  by_cases h : o = k
  ·subst h
   rw [if_neg (by omega), if_pos rfl]
   by_cases hz : o < z.size
   ·rw [if_pos hz, if_pos ⟨Nat.le_refl _, by omega, hz⟩, Nat.sub_self]; rfl
   ·rw [if_neg hz, if_neg (by omega), Array.getElem?_eq_none (by omega)]
  ·rw [if_neg h]
   by_cases h1 : o + 1 ≤ k ∧ k < o + 1 + l.length ∧ k < z.size
   ·rw [if_pos h1, if_pos (by omega), show k - o = (k - (o + 1)) + 1 by omega, List.getElem?_cons_succ]
   ·rw [if_neg h1, if_neg (by omega)]
theorem fill_zip {α : Type} (z cs : Array α) (n : Nat) (hz : z.size = cs.size) (hn : n = cs.size) : Array.foldl (fun (a : Array α) (x : α × Nat) => a.setIfInBounds x.snd x.fst) z cs.zipIdx 0 n = cs := by
 subst hn
 have e : Array.foldl (fun (a : Array α) (x : α × Nat) => a.setIfInBounds x.snd x.fst) z cs.zipIdx 0 cs.size = (cs.toList.zipIdx 0).foldl (fun a x => a.setIfInBounds x.2 x.1) z := by
  rw [← Array.toList_zipIdx, Array.foldl_toList]
  congr 1
  simp
 rw [e]
 apply Array.ext_getElem?
 intro k
 rw [fill_list, Array.length_toList, Nat.zero_add, Nat.sub_zero]
 by_cases h : k < cs.size
 ·rw [if_pos ⟨Nat.zero_le _, h, by omega⟩]; simp
 ·rw [if_neg (by omega), Array.getElem?_eq_none (by omega), Array.getElem?_eq_none (by omega)]
set_option maxRecDepth 100000 in
theorem bent_ok (w : World) : Calls Tryz.prog 4 #[] w fun r w' => (∃ (v : Loc) (ps : List (Pg Loc)), r = .returned (.slice v.A ps.length v.c) ∧ ps.length = 28 ∧ RowB (fun W p => GoodP w.heap.size p W) Pg.fp (Pg.cells eT) w.heap.size 35 22 v ps w') ∧ Below w.heap.size w w' := by
 have hn1 := fun W => name_ok ⟨#[120]⟩ W
 have hn2 := fun W => num_ok 1 2 W
 replace hn1 := Lib.hid hn1
 replace hn2 := Lib.hid hn2
 go_enter Tryz.func4, Tryz.ntmps4
 go_upto_region 2 with (first
  | (go_at_call 7; with_reducible refine (hn1.out _).mono ?_; rintro _ W1 ⟨rfl, hB1⟩)
  | (go_at_call 25; with_reducible refine (hn2.out _).mono ?_; rintro _ W2 ⟨rfl, hB2⟩))
 have hB3 := below_and hB1 hB2
 have hx := (Blk.new W2 30 xC).alloc (.cells oC 30)
 have ho := Blk.new (W2.alloc (.cells xC 30)) 30 oC
 rw [World.size_alloc] at ho
 have hB4 := (hB3.alloc hB3.size (.cells xC 30)).alloc (by have := hB3.size; simp; omega) (.cells oC 30)
 unfold xC oC at hx ho hB4
 obtain ⟨gx, hgx⟩ : ∃ g, W2.heap.size = g := ⟨_, rfl⟩
 generalize (W2.alloc (.cells _ _)).alloc (.cells _ _) = W3 at *
 rw [hgx] at hx ho ⊢
 have hn3 := fun W => name_ok ⟨#[105]⟩ W
 replace hn3 := Lib.hid hn3
 replace hx := Lib.hid hx
 replace ho := Lib.hid ho
 replace hB4 := Lib.hid hB4
 clear hB1 hB2 hB3 hgx hn1 hn2 W1 W2
 go_wp2_with fail
 go_loopw [3, 9] (fun v3 v9 wr => ∃ (k : Nat) (A : Option Addr) (c : Nat) (ps : List (Pg Loc)), v9 = .int .i64 k ∧ k ≤ 28 ∧ v3 = .slice A k c ∧ ps.length = k ∧ RowB (fun W p => GoodP W3.heap.size p W) Pg.fp (Pg.cells eT) W3.heap.size 35 22 ⟨A, c⟩ ps wr ∧ Below W3.heap.size W3 wr) (fun _ v9 _ => 28 - (intOf v9).toNat)
 case atStart => exact ⟨0, none, 0, [], rfl, by omega, rfl, rfl, RowB.nil _ _ _ _ _ _ _, Below.refl _ _⟩
 case round =>
  obtain ⟨k, A, c, ps, rfl, hk, rfl, hlp, hR, hB⟩ := hrel
  have k0 : 0 ≤ (k : Int) := by omega
  by_cases hlt : k < 28
  ·have k1 : (k : Int) < 28 := by omega
   have hxr := hx.out.below hB hx.out.lt
   have hor := ho.out.below hB ho.out.lt
   have xl := hxr.lt
   have ol := hor.lt
   replace hR := Lib.hid hR
   replace hB := Lib.hid hB
   go_upto_region 6 with (fail)
   have hBd := (Below.refl wr.heap.size wr).drew
   have hL : ∀ W, Below wr.heap.size wr W → (∀ i, W.cell? ⟨gx, i, none⟩ = xC[i]?) ∧ ∀ i, W.cell? ⟨gx + 1, i, none⟩ = oC[i]? := fun W h => ⟨(hxr.below h xl).cell, (hor.below h ol).cell⟩
   unfold xC oC at hL
   replace hL := Lib.hid hL
   replace hxr := Lib.hid hxr
   replace hor := Lib.hid hor
   refine wp_region_held (S := fun W => Below wr.heap.size wr W) (by kernel_rfl) ?_
   change wpAnyH _ _ _ _ _ _ _ _ (World.drew _)
   refine takes [0, 2, 4, 6, 14, 16, 22, 9, 20, 24, 30, 32, 38] (fuel := 29) (by kernel_rfl) (fun _ _ _ _ h => h) hBd (by kernel_rfl) (fun K hK => ?_)
   repeat (refine TakesG.cons rfl (v := ?_) ?_ ?_; rotate_left; (· intro wz hSw; have hz := hL.out wz hSw; clear hSw; go_simp; try with_reducible rfl); simp only [Act.put, List.setIfInBounds_toArray, List.set_cons_zero, List.set_cons_succ])
   refine hK.out _ ?_
   clear hK K hL
   refine bag_any [1, 3, 5, 7, 8, 10, 11, 12, 13, 15, 17, 18, 19, 21, 23, 25, 26, 27, 28, 29, 31, 33, 34, 35, 36, 37, 39, 40] [some 13, some 15, some 17, some 19, some 20, some 22, some 23, some 24, some 25, some 27, some 29, some 30, some 31, some 33, some 35, some 37, some 38, some 39, some 40, some 41, some 43, some 45, some 46, some 47, some 48, some 49, some 51, some 5] [bS0 1 0 60 #[.string ⟨#[105]⟩, .int .i64 2, .int .i64 0], bS0 3 1 60 #[.string ⟨#[103]⟩, .int .i64 1, .int .i64 0], bS0 5 2 60 #[.string ⟨#[120]⟩, .int .i64 2, .int .i64 0], bS0 7 3 60 #[.string ⟨#[97]⟩, .int .i64 2, .int .i64 3], bVal 8 [] (fun x => x 4 = .agg #[.int .u8 2, .int .u8 0, .int .u32 0, .int .i64 0, .string ⟨#[105]⟩, .slice none 0 0]), ⟨10, [4], fun x lo hi W => ∃ g, x 5 = .agg #[.int .u8 6, .int .u8 15, .int .u32 0, .int .i64 0, .string ⟨#[]⟩, .slice (some ⟨g, 0, none⟩) 2 2] ∧ Blk W g 30 #[.int .u8 2, .int .u8 0, .int .u32 0, .int .i64 0, .string ⟨#[105]⟩, .slice none 0 0, .int .u8 1, .int .u8 0, .int .u32 1, .int .i64 2, .string ⟨#[]⟩, .slice none 0 0] ∧ lo ≤ g ∧ g < hi, fun _ _ _ _ _ _ hb ⟨g, h1, h3, h4⟩ => ⟨g, h1, h3.below hb h3.lt, h4⟩⟩, bVal 11 [] (fun x => x 6 = .agg #[.int .u8 2, .int .u8 0, .int .u32 0, .int .i64 0, .string ⟨#[105]⟩, .slice none 0 0]), bVal 12 [6] (fun x => x 7 = .agg #[.int .i64 1, .int .u8 2, .int .u8 0, .int .u32 0, .int .i64 0, .string ⟨#[105]⟩, .slice none 0 0]), bSl 13 8 7 62, bS0 15 9 60 #[.string ⟨#[121]⟩, .int .i64 2, .int .i64 0], bS0 17 10 40 #[.int .u8 4, .string ⟨#[]⟩, .slice none 0 0, .int .i64 0, .slice none 0 0, .slice none 0 0], bVal 18 [9, 10] (fun x => x 11 = .agg #[.string ⟨#[112]⟩, x 9, x 10]), bSl 19 12 11 64, bS0 21 13 30 #[.int .u8 2, .int .u8 0, .int .u32 0, .int .i64 0, .string ⟨#[120]⟩, .slice none 0 0], bS0 23 14 40 #[.int .u8 5, .string ⟨#[]⟩, .slice none 0 0, .int .i64 0, .slice none 0 0, .slice none 0 0], bS0 25 15 30 #[.int .u8 2, .int .u8 0, .int .u32 0, .int .i64 0, .string ⟨#[120]⟩, .slice none 0 0], bVal 26 [15] (fun x => x 16 = .agg #[.int .u8 8, .string ⟨#[112]⟩, x 15, .int .i64 0, .slice none 0 0, .slice none 0 0]), bSl 27 17 16 40, bVal 28 [13, 14, 17] (fun x => x 18 = .agg #[.int .u8 6, .string ⟨#[]⟩, x 13, .int .i64 0, x 14, x 17]), bSl 29 19 18 40, bS0 31 20 30 #[.int .u8 2, .int .u8 0, .int .u32 0, .int .i64 0, .string ⟨#[120]⟩, .slice none 0 0], bS0 33 21 30 #[.int .u8 1, .int .u8 0, .int .u32 1, .int .i64 2, .string ⟨#[]⟩, .slice none 0 0], bVal 34 [21] (fun x => x 22 = .agg #[.int .u8 1, .string ⟨#[120]⟩, x 21, .int .i64 0, .slice none 0 0, .slice none 0 0]), bSl 35 23 22 40, bVal 36 [20, 23] (fun x => x 24 = .agg #[.int .u8 7, .string ⟨#[]⟩, x 20, .int .i64 2, x 23, .slice none 0 0]), bSl 37 25 24 40, bVal 39 [0, 1, 2, 3, 5, 8, 12, 19, 25] (fun x => x 26 = .agg #[.int .i64 2, .int .i64 2, x 0, x 1, x 2, x 3, fld (x 5) 0, fld (x 5) 1, fld (x 5) 2, fld (x 5) 3, fld (x 5) 4, fld (x 5) 5, x 8, x 12, x 19, x 25, .int .u8 1, .int .u8 0, .int .u32 1, .int .i64 2, .string ⟨#[]⟩, .slice none 0 0]), bNw 40 27 35 #[.int .i64 0, .int .i64 0, .slice none 0 0, .slice none 0 0, .slice none 0 0, .slice none 0 0, .int .u8 0, .int .u8 0, .int .u32 0, .int .i64 0, .string ⟨#[]⟩, .slice none 0 0, .slice none 0 0, .slice none 0 0, .slice none 0 0, .slice none 0 0, .int .u8 0, .int .u8 0, .int .u32 0, .int .i64 0, .string ⟨#[]⟩, .slice none 0 0]] (fuel := 1) rfl rfl (by kernel_rfl) (fun W h => hBd.trans h)
    ((.cons rfl rfl (fun x lo hi W hW hd K hK => ?_) (.cons rfl rfl (fun x lo hi W hW hd K hK => ?_) (.cons rfl rfl (fun x lo hi W hW hd K hK => ?_) (.cons rfl rfl (fun x lo hi W hW hd K hK => ?_) (.cons rfl rfl (fun x lo hi W hW hd K hK => ?_) (.cons rfl rfl (fun x lo hi W hW hd K hK => ?_) (.cons rfl rfl (fun x lo hi W hW hd K hK => ?_) (.cons rfl rfl (fun x lo hi W hW hd K hK => ?_) (.cons rfl rfl (fun x lo hi W hW hd K hK => ?_) (.cons rfl rfl (fun x lo hi W hW hd K hK => ?_) (.cons rfl rfl (fun x lo hi W hW hd K hK => ?_) (.cons rfl rfl (fun x lo hi W hW hd K hK => ?_) (.cons rfl rfl (fun x lo hi W hW hd K hK => ?_) (.cons rfl rfl (fun x lo hi W hW hd K hK => ?_) (.cons rfl rfl (fun x lo hi W hW hd K hK => ?_) (.cons rfl rfl (fun x lo hi W hW hd K hK => ?_) (.cons rfl rfl (fun x lo hi W hW hd K hK => ?_) (.cons rfl rfl (fun x lo hi W hW hd K hK => ?_) (.cons rfl rfl (fun x lo hi W hW hd K hK => ?_) (.cons rfl rfl (fun x lo hi W hW hd K hK => ?_) (.cons rfl rfl (fun x lo hi W hW hd K hK => ?_) (.cons rfl rfl (fun x lo hi W hW hd K hK => ?_) (.cons rfl rfl (fun x lo hi W hW hd K hK => ?_) (.cons rfl rfl (fun x lo hi W hW hd K hK => ?_) (.cons rfl rfl (fun x lo hi W hW hd K hK => ?_) (.cons rfl rfl (fun x lo hi W hW hd K hK => ?_) (.cons rfl rfl (fun x lo hi W hW hd K hK => ?_) (.cons rfl rfl (fun x lo hi W hW hd K hK => ?_) .nil))))))))))))))))))))))))))))) ?_
   ·simp only [bagAct, puts, Act.put, List.setIfInBounds_toArray, List.set_cons_zero, List.set_cons_succ] at hK ⊢
    go_simp
    exact hK.out _ _ (new_below W _) ⟨_, rfl, Blk.new W _ _, Nat.le_refl _, by simp⟩
   ·simp only [bagAct, puts, Act.put, List.setIfInBounds_toArray, List.set_cons_zero, List.set_cons_succ] at hK ⊢
    go_simp
    exact hK.out _ _ (new_below W _) ⟨_, rfl, Blk.new W _ _, Nat.le_refl _, by simp⟩
   ·simp only [bagAct, puts, Act.put, List.setIfInBounds_toArray, List.set_cons_zero, List.set_cons_succ] at hK ⊢
    go_simp
    exact hK.out _ _ (new_below W _) ⟨_, rfl, Blk.new W _ _, Nat.le_refl _, by simp⟩
   ·simp only [bagAct, puts, Act.put, List.setIfInBounds_toArray, List.set_cons_zero, List.set_cons_succ] at hK ⊢
    go_simp
    exact hK.out _ _ (new_below W _) ⟨_, rfl, Blk.new W _ _, Nat.le_refl _, by simp⟩
   ·simp only [bagAct, puts, Act.put, List.setIfInBounds_toArray, List.set_cons_zero, List.set_cons_succ] at hK ⊢
    go_simp
    refine (hn3.out W).mono ?_
    rintro _ W' ⟨rfl, hb⟩
    exact hK.out _ _ hb rfl
   ·simp only [bagAct, puts, Act.put, List.setIfInBounds_toArray, List.set_cons_zero, List.set_cons_succ] at hK ⊢
    have e4 : x 4 = .agg #[.int .u8 2, .int .u8 0, .int .u32 0, .int .i64 0, .string ⟨#[105]⟩, .slice none 0 0] := (hd 4 _ rfl rfl).2.2
    clear hd
    go_simp
    refine (bin_ok 15 _ _ _ _ _ _ _ _ _ _ _ _ (by simp [Value.oneCell']) (by simp [Value.oneCell']) W).mono ?_
    rintro _ W' ⟨g, rfl, hg, hl, hb⟩
    simp only [e4] at hK
    exact hK.out _ _ hb ⟨g, rfl, hg, hl, hg.lt⟩
   ·simp only [bagAct, puts, Act.put, List.setIfInBounds_toArray, List.set_cons_zero, List.set_cons_succ] at hK ⊢
    go_simp
    refine (hn3.out W).mono ?_
    rintro _ W' ⟨rfl, hb⟩
    exact hK.out _ _ hb rfl
   ·simp only [bagAct, puts, Act.put, List.setIfInBounds_toArray, List.set_cons_zero, List.set_cons_succ] at hK ⊢
    have e6 : x 6 = .agg #[.int .u8 2, .int .u8 0, .int .u32 0, .int .i64 0, .string ⟨#[105]⟩, .slice none 0 0] := (hd 6 _ rfl rfl).2.2
    clear hd
    go_simp
    simp only [e6] at hK
    exact hK.out _ _ (Below.refl _ _) (by simp [bVal, seen, upd, fld, e6])
   ·simp only [bagAct, puts, Act.put, List.setIfInBounds_toArray, List.set_cons_zero, List.set_cons_succ] at hK ⊢
    have e7 : x 7 = .agg #[.int .i64 1, .int .u8 2, .int .u8 0, .int .u32 0, .int .i64 0, .string ⟨#[105]⟩, .slice none 0 0] := (hd 7 _ rfl rfl).2.2
    clear hd
    go_simp
    simp only [e7] at hK
    exact hK.out _ _ (new_below W _) ⟨_, _, rfl, e7, Blk.new W _ _, Nat.le_refl _, by simp⟩
   ·simp only [bagAct, puts, Act.put, List.setIfInBounds_toArray, List.set_cons_zero, List.set_cons_succ] at hK ⊢
    go_simp
    exact hK.out _ _ (new_below W _) ⟨_, rfl, Blk.new W _ _, Nat.le_refl _, by simp⟩
   ·simp only [bagAct, puts, Act.put, List.setIfInBounds_toArray, List.set_cons_zero, List.set_cons_succ] at hK ⊢
    go_simp
    exact hK.out _ _ (new_below W _) ⟨_, rfl, Blk.new W _ _, Nat.le_refl _, by simp⟩
   ·simp only [bagAct, puts, Act.put, List.setIfInBounds_toArray, List.set_cons_zero, List.set_cons_succ] at hK ⊢
    obtain ⟨g9, e9, -⟩ : ∃ g, x 9 = .slice (some ⟨g, 0, none⟩) 1 1 ∧ _ := (hd 9 _ rfl rfl).2.2
    obtain ⟨g10, e10, -⟩ : ∃ g, x 10 = .slice (some ⟨g, 0, none⟩) 1 1 ∧ _ := (hd 10 _ rfl rfl).2.2
    clear hd
    go_simp
    simp only [e9, e10] at hK
    exact hK.out _ _ (Below.refl _ _) (by simp [bVal, seen, upd, fld, e9, e10])
   ·simp only [bagAct, puts, Act.put, List.setIfInBounds_toArray, List.set_cons_zero, List.set_cons_succ] at hK ⊢
    have e11 : x 11 = .agg #[.string ⟨#[112]⟩, x 9, x 10] := (hd 11 _ rfl rfl).2.2
    clear hd
    go_simp
    simp only [e11] at hK
    exact hK.out _ _ (new_below W _) ⟨_, _, rfl, e11, Blk.new W _ _, Nat.le_refl _, by simp⟩
   ·simp only [bagAct, puts, Act.put, List.setIfInBounds_toArray, List.set_cons_zero, List.set_cons_succ] at hK ⊢
    go_simp
    exact hK.out _ _ (new_below W _) ⟨_, rfl, Blk.new W _ _, Nat.le_refl _, by simp⟩
   ·simp only [bagAct, puts, Act.put, List.setIfInBounds_toArray, List.set_cons_zero, List.set_cons_succ] at hK ⊢
    go_simp
    exact hK.out _ _ (new_below W _) ⟨_, rfl, Blk.new W _ _, Nat.le_refl _, by simp⟩
   ·simp only [bagAct, puts, Act.put, List.setIfInBounds_toArray, List.set_cons_zero, List.set_cons_succ] at hK ⊢
    go_simp
    exact hK.out _ _ (new_below W _) ⟨_, rfl, Blk.new W _ _, Nat.le_refl _, by simp⟩
   ·simp only [bagAct, puts, Act.put, List.setIfInBounds_toArray, List.set_cons_zero, List.set_cons_succ] at hK ⊢
    obtain ⟨g15, e15, -⟩ : ∃ g, x 15 = .slice (some ⟨g, 0, none⟩) 1 1 ∧ _ := (hd 15 _ rfl rfl).2.2
    clear hd
    go_simp
    simp only [e15] at hK
    exact hK.out _ _ (Below.refl _ _) (by simp [bVal, seen, upd, fld, e15])
   ·simp only [bagAct, puts, Act.put, List.setIfInBounds_toArray, List.set_cons_zero, List.set_cons_succ] at hK ⊢
    have e16 : x 16 = .agg #[.int .u8 8, .string ⟨#[112]⟩, x 15, .int .i64 0, .slice none 0 0, .slice none 0 0] := (hd 16 _ rfl rfl).2.2
    clear hd
    go_simp
    simp only [e16] at hK
    exact hK.out _ _ (new_below W _) ⟨_, _, rfl, e16, Blk.new W _ _, Nat.le_refl _, by simp⟩
   ·simp only [bagAct, puts, Act.put, List.setIfInBounds_toArray, List.set_cons_zero, List.set_cons_succ] at hK ⊢
    obtain ⟨g13, e13, -⟩ : ∃ g, x 13 = .slice (some ⟨g, 0, none⟩) 1 1 ∧ _ := (hd 13 _ rfl rfl).2.2
    obtain ⟨g14, e14, -⟩ : ∃ g, x 14 = .slice (some ⟨g, 0, none⟩) 1 1 ∧ _ := (hd 14 _ rfl rfl).2.2
    obtain ⟨g17, -, e17, -⟩ : ∃ g cs, x 17 = .slice (some ⟨g, 0, none⟩) 1 1 ∧ _ := (hd 17 _ rfl rfl).2.2
    clear hd
    go_simp
    simp only [e13, e14, e17] at hK
    exact hK.out _ _ (Below.refl _ _) (by simp [bVal, seen, upd, fld, e13, e14, e17])
   ·simp only [bagAct, puts, Act.put, List.setIfInBounds_toArray, List.set_cons_zero, List.set_cons_succ] at hK ⊢
    have e18 : x 18 = .agg #[.int .u8 6, .string ⟨#[]⟩, x 13, .int .i64 0, x 14, x 17] := (hd 18 _ rfl rfl).2.2
    clear hd
    go_simp
    simp only [e18] at hK
    exact hK.out _ _ (new_below W _) ⟨_, _, rfl, e18, Blk.new W _ _, Nat.le_refl _, by simp⟩
   ·simp only [bagAct, puts, Act.put, List.setIfInBounds_toArray, List.set_cons_zero, List.set_cons_succ] at hK ⊢
    go_simp
    exact hK.out _ _ (new_below W _) ⟨_, rfl, Blk.new W _ _, Nat.le_refl _, by simp⟩
   ·simp only [bagAct, puts, Act.put, List.setIfInBounds_toArray, List.set_cons_zero, List.set_cons_succ] at hK ⊢
    go_simp
    exact hK.out _ _ (new_below W _) ⟨_, rfl, Blk.new W _ _, Nat.le_refl _, by simp⟩
   ·simp only [bagAct, puts, Act.put, List.setIfInBounds_toArray, List.set_cons_zero, List.set_cons_succ] at hK ⊢
    obtain ⟨g21, e21, -⟩ : ∃ g, x 21 = .slice (some ⟨g, 0, none⟩) 1 1 ∧ _ := (hd 21 _ rfl rfl).2.2
    clear hd
    go_simp
    simp only [e21] at hK
    exact hK.out _ _ (Below.refl _ _) (by simp [bVal, seen, upd, fld, e21])
   ·simp only [bagAct, puts, Act.put, List.setIfInBounds_toArray, List.set_cons_zero, List.set_cons_succ] at hK ⊢
    have e22 : x 22 = .agg #[.int .u8 1, .string ⟨#[120]⟩, x 21, .int .i64 0, .slice none 0 0, .slice none 0 0] := (hd 22 _ rfl rfl).2.2
    clear hd
    go_simp
    simp only [e22] at hK
    exact hK.out _ _ (new_below W _) ⟨_, _, rfl, e22, Blk.new W _ _, Nat.le_refl _, by simp⟩
   ·simp only [bagAct, puts, Act.put, List.setIfInBounds_toArray, List.set_cons_zero, List.set_cons_succ] at hK ⊢
    obtain ⟨g20, e20, -⟩ : ∃ g, x 20 = .slice (some ⟨g, 0, none⟩) 1 1 ∧ _ := (hd 20 _ rfl rfl).2.2
    obtain ⟨g23, -, e23, -⟩ : ∃ g cs, x 23 = .slice (some ⟨g, 0, none⟩) 1 1 ∧ _ := (hd 23 _ rfl rfl).2.2
    clear hd
    go_simp
    simp only [e20, e23] at hK
    exact hK.out _ _ (Below.refl _ _) (by simp [bVal, seen, upd, fld, e20, e23])
   ·simp only [bagAct, puts, Act.put, List.setIfInBounds_toArray, List.set_cons_zero, List.set_cons_succ] at hK ⊢
    have e24 : x 24 = .agg #[.int .u8 7, .string ⟨#[]⟩, x 20, .int .i64 2, x 23, .slice none 0 0] := (hd 24 _ rfl rfl).2.2
    clear hd
    go_simp
    simp only [e24] at hK
    exact hK.out _ _ (new_below W _) ⟨_, _, rfl, e24, Blk.new W _ _, Nat.le_refl _, by simp⟩
   ·simp only [bagAct, puts, Act.put, List.setIfInBounds_toArray, List.set_cons_zero, List.set_cons_succ] at hK ⊢
    obtain ⟨g0, e0, -⟩ : ∃ g, x 0 = .slice (some ⟨g, 0, none⟩) 1 1 ∧ _ := (hd 0 _ rfl rfl).2.2
    obtain ⟨g1, e1, -⟩ : ∃ g, x 1 = .slice (some ⟨g, 0, none⟩) 1 1 ∧ _ := (hd 1 _ rfl rfl).2.2
    obtain ⟨g2, e2, -⟩ : ∃ g, x 2 = .slice (some ⟨g, 0, none⟩) 1 1 ∧ _ := (hd 2 _ rfl rfl).2.2
    obtain ⟨g3, e3, -⟩ : ∃ g, x 3 = .slice (some ⟨g, 0, none⟩) 1 1 ∧ _ := (hd 3 _ rfl rfl).2.2
    obtain ⟨g5, e5, -⟩ : ∃ g, x 5 = .agg #[.int .u8 6, .int .u8 15, .int .u32 0, .int .i64 0, .string ⟨#[]⟩, .slice (some ⟨g, 0, none⟩) 2 2] ∧ _ := (hd 5 _ rfl rfl).2.2
    obtain ⟨g8, -, e8, -⟩ : ∃ g cs, x 8 = .slice (some ⟨g, 0, none⟩) 1 1 ∧ _ := (hd 8 _ rfl rfl).2.2
    obtain ⟨g12, -, e12, -⟩ : ∃ g cs, x 12 = .slice (some ⟨g, 0, none⟩) 1 1 ∧ _ := (hd 12 _ rfl rfl).2.2
    obtain ⟨g19, -, e19, -⟩ : ∃ g cs, x 19 = .slice (some ⟨g, 0, none⟩) 1 1 ∧ _ := (hd 19 _ rfl rfl).2.2
    obtain ⟨g25, -, e25, -⟩ : ∃ g cs, x 25 = .slice (some ⟨g, 0, none⟩) 1 1 ∧ _ := (hd 25 _ rfl rfl).2.2
    clear hd
    go_simp
    simp only [e0, e1, e2, e3, e5, e8, e12, e19, e25] at hK
    exact hK.out _ _ (Below.refl _ _) (by simp [bVal, seen, upd, fld, e0, e1, e2, e3, e5, e8, e12, e19, e25])
   ·simp only [bagAct, puts, Act.put, List.setIfInBounds_toArray, List.set_cons_zero, List.set_cons_succ] at hK ⊢
    go_simp
    exact hK.out _ _ (new_below W _) (nwR_new W _ _)
   intro x lo hi W hE hBW
   obtain ⟨g0, e0, b0, l0, u0⟩ : ∃ g, x 0 = .slice (some ⟨g, 0, none⟩) 1 1 ∧ Blk W g 60 #[.string ⟨#[105]⟩, .int .i64 2, .int .i64 0] ∧ lo 0 ≤ g ∧ g < hi 0 := (hE.f 0 _ rfl).2.2
   obtain ⟨g1, e1, b1, l1, u1⟩ : ∃ g, x 1 = .slice (some ⟨g, 0, none⟩) 1 1 ∧ Blk W g 60 #[.string ⟨#[103]⟩, .int .i64 1, .int .i64 0] ∧ lo 1 ≤ g ∧ g < hi 1 := (hE.f 1 _ rfl).2.2
   obtain ⟨g2, e2, b2, l2, u2⟩ : ∃ g, x 2 = .slice (some ⟨g, 0, none⟩) 1 1 ∧ Blk W g 60 #[.string ⟨#[120]⟩, .int .i64 2, .int .i64 0] ∧ lo 2 ≤ g ∧ g < hi 2 := (hE.f 2 _ rfl).2.2
   obtain ⟨g3, e3, b3, l3, u3⟩ : ∃ g, x 3 = .slice (some ⟨g, 0, none⟩) 1 1 ∧ Blk W g 60 #[.string ⟨#[97]⟩, .int .i64 2, .int .i64 3] ∧ lo 3 ≤ g ∧ g < hi 3 := (hE.f 3 _ rfl).2.2
   obtain ⟨g5, e5, b5, l5, u5⟩ : ∃ g, x 5 = .agg #[.int .u8 6, .int .u8 15, .int .u32 0, .int .i64 0, .string ⟨#[]⟩, .slice (some ⟨g, 0, none⟩) 2 2] ∧ Blk W g 30 #[.int .u8 2, .int .u8 0, .int .u32 0, .int .i64 0, .string ⟨#[105]⟩, .slice none 0 0, .int .u8 1, .int .u8 0, .int .u32 1, .int .i64 2, .string ⟨#[]⟩, .slice none 0 0] ∧ lo 5 ≤ g ∧ g < hi 5 := (hE.f 5 _ rfl).2.2
   have e7 : x 7 = .agg #[.int .i64 1, .int .u8 2, .int .u8 0, .int .u32 0, .int .i64 0, .string ⟨#[105]⟩, .slice none 0 0] := (hE.f 7 _ rfl).2.2
   obtain ⟨g8, cs8, e8, f8, b8, l8, u8⟩ : ∃ g cs, x 8 = .slice (some ⟨g, 0, none⟩) 1 1 ∧ x 7 = .agg cs ∧ Blk W g 62 cs ∧ lo 8 ≤ g ∧ g < hi 8 := (hE.f 8 _ rfl).2.2
   obtain ⟨g9, e9, b9, l9, u9⟩ : ∃ g, x 9 = .slice (some ⟨g, 0, none⟩) 1 1 ∧ Blk W g 60 #[.string ⟨#[121]⟩, .int .i64 2, .int .i64 0] ∧ lo 9 ≤ g ∧ g < hi 9 := (hE.f 9 _ rfl).2.2
   obtain ⟨g10, e10, b10, l10, u10⟩ : ∃ g, x 10 = .slice (some ⟨g, 0, none⟩) 1 1 ∧ Blk W g 40 #[.int .u8 4, .string ⟨#[]⟩, .slice none 0 0, .int .i64 0, .slice none 0 0, .slice none 0 0] ∧ lo 10 ≤ g ∧ g < hi 10 := (hE.f 10 _ rfl).2.2
   have e11 : x 11 = .agg #[.string ⟨#[112]⟩, x 9, x 10] := (hE.f 11 _ rfl).2.2
   obtain ⟨g12, cs12, e12, f12, b12, l12, u12⟩ : ∃ g cs, x 12 = .slice (some ⟨g, 0, none⟩) 1 1 ∧ x 11 = .agg cs ∧ Blk W g 64 cs ∧ lo 12 ≤ g ∧ g < hi 12 := (hE.f 12 _ rfl).2.2
   obtain ⟨g13, e13, b13, l13, u13⟩ : ∃ g, x 13 = .slice (some ⟨g, 0, none⟩) 1 1 ∧ Blk W g 30 #[.int .u8 2, .int .u8 0, .int .u32 0, .int .i64 0, .string ⟨#[120]⟩, .slice none 0 0] ∧ lo 13 ≤ g ∧ g < hi 13 := (hE.f 13 _ rfl).2.2
   obtain ⟨g14, e14, b14, l14, u14⟩ : ∃ g, x 14 = .slice (some ⟨g, 0, none⟩) 1 1 ∧ Blk W g 40 #[.int .u8 5, .string ⟨#[]⟩, .slice none 0 0, .int .i64 0, .slice none 0 0, .slice none 0 0] ∧ lo 14 ≤ g ∧ g < hi 14 := (hE.f 14 _ rfl).2.2
   obtain ⟨g15, e15, b15, l15, u15⟩ : ∃ g, x 15 = .slice (some ⟨g, 0, none⟩) 1 1 ∧ Blk W g 30 #[.int .u8 2, .int .u8 0, .int .u32 0, .int .i64 0, .string ⟨#[120]⟩, .slice none 0 0] ∧ lo 15 ≤ g ∧ g < hi 15 := (hE.f 15 _ rfl).2.2
   have e16 : x 16 = .agg #[.int .u8 8, .string ⟨#[112]⟩, x 15, .int .i64 0, .slice none 0 0, .slice none 0 0] := (hE.f 16 _ rfl).2.2
   obtain ⟨g17, cs17, e17, f17, b17, l17, u17⟩ : ∃ g cs, x 17 = .slice (some ⟨g, 0, none⟩) 1 1 ∧ x 16 = .agg cs ∧ Blk W g 40 cs ∧ lo 17 ≤ g ∧ g < hi 17 := (hE.f 17 _ rfl).2.2
   have e18 : x 18 = .agg #[.int .u8 6, .string ⟨#[]⟩, x 13, .int .i64 0, x 14, x 17] := (hE.f 18 _ rfl).2.2
   obtain ⟨g19, cs19, e19, f19, b19, l19, u19⟩ : ∃ g cs, x 19 = .slice (some ⟨g, 0, none⟩) 1 1 ∧ x 18 = .agg cs ∧ Blk W g 40 cs ∧ lo 19 ≤ g ∧ g < hi 19 := (hE.f 19 _ rfl).2.2
   obtain ⟨g20, e20, b20, l20, u20⟩ : ∃ g, x 20 = .slice (some ⟨g, 0, none⟩) 1 1 ∧ Blk W g 30 #[.int .u8 2, .int .u8 0, .int .u32 0, .int .i64 0, .string ⟨#[120]⟩, .slice none 0 0] ∧ lo 20 ≤ g ∧ g < hi 20 := (hE.f 20 _ rfl).2.2
   obtain ⟨g21, e21, b21, l21, u21⟩ : ∃ g, x 21 = .slice (some ⟨g, 0, none⟩) 1 1 ∧ Blk W g 30 #[.int .u8 1, .int .u8 0, .int .u32 1, .int .i64 2, .string ⟨#[]⟩, .slice none 0 0] ∧ lo 21 ≤ g ∧ g < hi 21 := (hE.f 21 _ rfl).2.2
   have e22 : x 22 = .agg #[.int .u8 1, .string ⟨#[120]⟩, x 21, .int .i64 0, .slice none 0 0, .slice none 0 0] := (hE.f 22 _ rfl).2.2
   obtain ⟨g23, cs23, e23, f23, b23, l23, u23⟩ : ∃ g cs, x 23 = .slice (some ⟨g, 0, none⟩) 1 1 ∧ x 22 = .agg cs ∧ Blk W g 40 cs ∧ lo 23 ≤ g ∧ g < hi 23 := (hE.f 23 _ rfl).2.2
   have e24 : x 24 = .agg #[.int .u8 7, .string ⟨#[]⟩, x 20, .int .i64 2, x 23, .slice none 0 0] := (hE.f 24 _ rfl).2.2
   obtain ⟨g25, cs25, e25, f25, b25, l25, u25⟩ : ∃ g cs, x 25 = .slice (some ⟨g, 0, none⟩) 1 1 ∧ x 24 = .agg cs ∧ Blk W g 40 cs ∧ lo 25 ≤ g ∧ g < hi 25 := (hE.f 25 _ rfl).2.2
   have e26 : x 26 = .agg #[.int .i64 2, .int .i64 2, x 0, x 1, x 2, x 3, fld (x 5) 0, fld (x 5) 1, fld (x 5) 2, fld (x 5) 3, fld (x 5) 4, fld (x 5) 5, x 8, x 12, x 19, x 25, .int .u8 1, .int .u8 0, .int .u32 1, .int .i64 2, .string ⟨#[]⟩, .slice none 0 0] := (hE.f 26 _ rfl).2.2
   obtain ⟨g27, e27, b27, l27, u27⟩ : nwR _ _ (x 27) (lo 27) (hi 27) W := (hE.f 27 _ rfl).2.2
   obtain rfl : _ = cs8 := by have h := e7.symm.trans f8; injection h
   obtain rfl : _ = cs12 := by have h := e11.symm.trans f12; injection h
   simp only [e9, e10] at b12
   obtain rfl : _ = cs17 := by have h := e16.symm.trans f17; injection h
   simp only [e15] at b17
   obtain rfl : _ = cs19 := by have h := e18.symm.trans f19; injection h
   simp only [e13, e14, e17] at b19
   obtain rfl : _ = cs23 := by have h := e22.symm.trans f23; injection h
   simp only [e21] at b23
   obtain rfl : _ = cs25 := by have h := e24.symm.trans f25; injection h
   simp only [e20, e23] at b25
   simp only [fld, e0, e1, e2, e3, e5, e8, e12, e19, e25] at e26
   have hq : x 26 = .agg #[.int .i64 2, .int .i64 2, .slice (some ⟨g0, 0, none⟩) 1 1, .slice (some ⟨g1, 0, none⟩) 1 1, .slice (some ⟨g2, 0, none⟩) 1 1, .slice (some ⟨g3, 0, none⟩) 1 1, .int .u8 6, .int .u8 15, .int .u32 0, .int .i64 0, .string ⟨#[]⟩, .slice (some ⟨g5, 0, none⟩) 2 2, .slice (some ⟨g8, 0, none⟩) 1 1, .slice (some ⟨g12, 0, none⟩) 1 1, .slice (some ⟨g19, 0, none⟩) 1 1, .slice (some ⟨g25, 0, none⟩) 1 1, .int .u8 1, .int .u8 0, .int .u32 1, .int .i64 2, .string ⟨#[]⟩, .slice none 0 0] := e26
   have m27 : wr.heap.size ≤ lo 27 := (hE.f 27 _ rfl).1
   have m0 : wr.heap.size ≤ lo 0 := (hE.f 0 _ rfl).1
   have m1 : wr.heap.size ≤ lo 1 := (hE.f 1 _ rfl).1
   have m2 : wr.heap.size ≤ lo 2 := (hE.f 2 _ rfl).1
   have m3 : wr.heap.size ≤ lo 3 := (hE.f 3 _ rfl).1
   have m5 : wr.heap.size ≤ lo 5 := (hE.f 5 _ rfl).1
   have m8 : wr.heap.size ≤ lo 8 := (hE.f 8 _ rfl).1
   have m9 : wr.heap.size ≤ lo 9 := (hE.f 9 _ rfl).1
   have m10 : wr.heap.size ≤ lo 10 := (hE.f 10 _ rfl).1
   have m12 : wr.heap.size ≤ lo 12 := (hE.f 12 _ rfl).1
   have m13 : wr.heap.size ≤ lo 13 := (hE.f 13 _ rfl).1
   have m14 : wr.heap.size ≤ lo 14 := (hE.f 14 _ rfl).1
   have m15 : wr.heap.size ≤ lo 15 := (hE.f 15 _ rfl).1
   have m17 : wr.heap.size ≤ lo 17 := (hE.f 17 _ rfl).1
   have m19 : wr.heap.size ≤ lo 19 := (hE.f 19 _ rfl).1
   have m20 : wr.heap.size ≤ lo 20 := (hE.f 20 _ rfl).1
   have m21 : wr.heap.size ≤ lo 21 := (hE.f 21 _ rfl).1
   have m23 : wr.heap.size ≤ lo 23 := (hE.f 23 _ rfl).1
   have m25 : wr.heap.size ≤ lo 25 := (hE.f 25 _ rfl).1
   simp only [bagAct, puts, List.setIfInBounds_toArray, List.set_cons_zero, List.set_cons_succ]
   simp only [hq, e27]
   refine putH 41 rfl (by kernel_rfl) (.tmp 5) (.tmp 51) rfl rfl g27 #[.int .i64 2, .int .i64 2, .slice (some ⟨g0, 0, none⟩) 1 1, .slice (some ⟨g1, 0, none⟩) 1 1, .slice (some ⟨g2, 0, none⟩) 1 1, .slice (some ⟨g3, 0, none⟩) 1 1, .int .u8 6, .int .u8 15, .int .u32 0, .int .i64 0, .string ⟨#[]⟩, .slice (some ⟨g5, 0, none⟩) 2 2, .slice (some ⟨g8, 0, none⟩) 1 1, .slice (some ⟨g12, 0, none⟩) 1 1, .slice (some ⟨g19, 0, none⟩) 1 1, .slice (some ⟨g25, 0, none⟩) 1 1, .int .u8 1, .int .u8 0, .int .u32 1, .int .i64 2, .string ⟨#[]⟩, .slice none 0 0] b27 rfl rfl rfl (by kernel_rfl) (by simp [Value.oneCell']) (fun W' hN on => ?_)
   have hB' := hBW.trans (on.below (B := wr.heap.size) hBW.size (by simp; omega))
   refine ⟨hB', wpAnyH_done (by kernel_rfl) ?_ _⟩
   obtain ⟨g, hg⟩ : ∃ g : Nat → Nat, g = fun i => [g27, g0, g1, g2, g3, g5, g8, g9, g10, g12, g13, g14, g15, g17, g19, g20, g21, g23, g25].getD i 0 := ⟨_, rfl⟩
   have hin : ∀ i, i < 19 → lo ([27, 0, 1, 2, 3, 5, 8, 9, 10, 12, 13, 14, 15, 17, 19, 20, 21, 23, 25].getD i 0) ≤ g i ∧ g i < hi ([27, 0, 1, 2, 3, 5, 8, 9, 10, 12, 13, 14, 15, 17, 19, 20, 21, 23, 25].getD i 0) := by
    rw [hg]
    intro i hi'
    match i, hi' with
    | 0, _ => exact ⟨l27, u27⟩
    | 1, _ => exact ⟨l0, u0⟩
    | 2, _ => exact ⟨l1, u1⟩
    | 3, _ => exact ⟨l2, u2⟩
    | 4, _ => exact ⟨l3, u3⟩
    | 5, _ => exact ⟨l5, u5⟩
    | 6, _ => exact ⟨l8, u8⟩
    | 7, _ => exact ⟨l9, u9⟩
    | 8, _ => exact ⟨l10, u10⟩
    | 9, _ => exact ⟨l12, u12⟩
    | 10, _ => exact ⟨l13, u13⟩
    | 11, _ => exact ⟨l14, u14⟩
    | 12, _ => exact ⟨l15, u15⟩
    | 13, _ => exact ⟨l17, u17⟩
    | 14, _ => exact ⟨l19, u19⟩
    | 15, _ => exact ⟨l20, u20⟩
    | 16, _ => exact ⟨l21, u21⟩
    | 17, _ => exact ⟨l23, u23⟩
    | 18, _ => exact ⟨l25, u25⟩
    | n + 19, h => exact absurd h (Nat.not_lt.2 (Nat.le_add_left 19 n))
   have hne : ∀ i j, i < 19 → j < 19 → i ≠ j → g i ≠ g j := fun i j hi' hj' hij => by
    have h1 := hin i hi'
    have h2 := hin j hj'
    have h3 : ∀ i, i < 19 → ∀ j, j < 19 → i ≠ j → [27, 0, 1, 2, 3, 5, 8, 9, 10, 12, 13, 14, 15, 17, 19, 20, 21, 23, 25].getD i 0 ≠ [27, 0, 1, 2, 3, 5, 8, 9, 10, 12, 13, 14, 15, 17, 19, 20, 21, 23, 25].getD j 0 := by decide
    have h4 : ∀ i, i < 19 → [27, 0, 1, 2, 3, 5, 8, 9, 10, 12, 13, 14, 15, 17, 19, 20, 21, 23, 25].getD i 0 < 28 := by decide
    have := hE.d _ _ (h4 i hi') (h4 j hj') (h3 i hi' j hj' hij)
    omega
   have hBm : Bm wr.heap.size g (bC g) 99 W' := by
    refine ⟨fun i T cs _ hT hC => ?_, fun i hi' => ?_, hne⟩
    ·have hi' : i < 19 := (List.getElem?_eq_some_iff.1 hT).1
     have ho : ∀ i, 0 < i → i < 19 → g i ∉ [g27] := fun i h0 hi' h => hne i 0 hi' (by omega) (by omega) (by rw [List.mem_singleton.1 h, hg]; rfl)
     subst hg
     match i, hi', hT, hC with
     | 0, _, hT, hC => exact blk_at hN hT hC
     | 1, _, hT, hC => exact blk_at (b0.only on (ho 1 (by decide) (by decide))) hT hC
     | 2, _, hT, hC => exact blk_at (b1.only on (ho 2 (by decide) (by decide))) hT hC
     | 3, _, hT, hC => exact blk_at (b2.only on (ho 3 (by decide) (by decide))) hT hC
     | 4, _, hT, hC => exact blk_at (b3.only on (ho 4 (by decide) (by decide))) hT hC
     | 5, _, hT, hC => exact blk_at (b5.only on (ho 5 (by decide) (by decide))) hT hC
     | 6, _, hT, hC => exact blk_at (b8.only on (ho 6 (by decide) (by decide))) hT hC
     | 7, _, hT, hC => exact blk_at (b9.only on (ho 7 (by decide) (by decide))) hT hC
     | 8, _, hT, hC => exact blk_at (b10.only on (ho 8 (by decide) (by decide))) hT hC
     | 9, _, hT, hC => exact blk_at (b12.only on (ho 9 (by decide) (by decide))) hT hC
     | 10, _, hT, hC => exact blk_at (b13.only on (ho 10 (by decide) (by decide))) hT hC
     | 11, _, hT, hC => exact blk_at (b14.only on (ho 11 (by decide) (by decide))) hT hC
     | 12, _, hT, hC => exact blk_at (b15.only on (ho 12 (by decide) (by decide))) hT hC
     | 13, _, hT, hC => exact blk_at (b17.only on (ho 13 (by decide) (by decide))) hT hC
     | 14, _, hT, hC => exact blk_at (b19.only on (ho 14 (by decide) (by decide))) hT hC
     | 15, _, hT, hC => exact blk_at (b20.only on (ho 15 (by decide) (by decide))) hT hC
     | 16, _, hT, hC => exact blk_at (b21.only on (ho 16 (by decide) (by decide))) hT hC
     | 17, _, hT, hC => exact blk_at (b23.only on (ho 17 (by decide) (by decide))) hT hC
     | 18, _, hT, hC => exact blk_at (b25.only on (ho 18 (by decide) (by decide))) hT hC
     | n + 19, h, _, _ => exact absurd h (Nat.not_lt.2 (Nat.le_add_left 19 n))
    ·have h1 := hin i (Nat.le_of_ble_eq_true hi')
     have h2 : ∀ i, i < 19 → wr.heap.size ≤ lo ([27, 0, 1, 2, 3, 5, 8, 9, 10, 12, 13, 14, 15, 17, 19, 20, 21, 23, 25].getD i 0) := by
      intro i hi''
      match i, hi'' with
      | 0, _ => exact m27
      | 1, _ => exact m0
      | 2, _ => exact m1
      | 3, _ => exact m2
      | 4, _ => exact m3
      | 5, _ => exact m5
      | 6, _ => exact m8
      | 7, _ => exact m9
      | 8, _ => exact m10
      | 9, _ => exact m12
      | 10, _ => exact m13
      | 11, _ => exact m14
      | 12, _ => exact m15
      | 13, _ => exact m17
      | 14, _ => exact m19
      | 15, _ => exact m20
      | 16, _ => exact m21
      | 17, _ => exact m23
      | 18, _ => exact m25
      | n + 19, h => exact absurd h (Nat.not_lt.2 (Nat.le_add_left 19 n))
     have := h2 i (Nat.le_of_ble_eq_true hi')
     omega
   have hg0 : g 0 = g27 := by rw [hg]; rfl
   have hxw := hxr.out.below hB' hxr.out.lt
   have how := hor.out.below hB' hor.out.lt
   replace hxw := Lib.hid hxw
   replace how := Lib.hid how
   replace hBm := Lib.hid hBm
   replace hB' := Lib.hid hB'
   replace hg0 := Lib.hid hg0
   clear hE hin hne hg hq hN on hBW hBd e0 b0 l0 u0 e1 b1 l1 u1 e2 b2 l2 u2 e3 b3 l3 u3 e5 b5 l5 u5 e7 e8 b8 l8 u8 f8 e9 b9 l9 u9 e10 b10 l10 u10 e11 e12 b12 l12 u12 f12 e13 b13 l13 u13 e14 b14 l14 u14 e15 b15 l15 u15 e16 e17 b17 l17 u17 f17 e18 e19 b19 l19 u19 f19 e20 b20 l20 u20 e21 b21 l21 u21 e22 e23 b23 l23 u23 f23 e24 e25 b25 l25 u25 f25 e26 e27 b27 l27 u27 m27 m0 m1 m2 m3 m5 m8 m9 m10 m12 m13 m14 m15 m17 m19 m20 m21 m23 m25
   clear hxr hor xl ol
   go_upto_region 8 with (fail)
   have hbF := Blk.new W' 1 (fnC g27 gx (gx + 1))
   have hB8 := new_below W' (.cells (fnC g27 gx (gx + 1)) 1)
   have hfc := (hbF.cell k).trans (fnC_at g27 gx (gx + 1) k hlt)
   have hBm8 := hBm.out.below hB8
   have hx8 := hxw.out.below hB8 hxw.out.lt
   have ho8 := how.out.below hB8 how.out.lt
   have hb8 := below_and hB'.out hB8
   have hcall := change_any hBm8 hb8.size gx (gx + 1) hx8 ho8 k hlt
   rw [hg0.out] at hcall
   unfold fnC at hbF hB8 hfc hBm8 hx8 ho8 hb8 hcall
   have hfl := hbF.lt
   generalize W'.alloc _ = W8 at *
   generalize W'.heap.size = gf at *
   replace hcall := Lib.hid hcall
   replace hb8 := Lib.hid hb8
   clear hbF hB8 hBm8 hx8 ho8 hBm hB' hxw how
   have hin := change_in W8 (capC k g27 gx (gx + 1)) k hlt
   go_upto_region 10 with (refine hcall.out.mono ?_; rintro _ W9 ⟨rfl, hL⟩)
   obtain ⟨p, hp, hgp, hb9⟩ := hL
   obtain ⟨cs, hcs⟩ : ∃ cs, cs = (p.cells eT).toArray := ⟨_, rfl⟩
   have hsz : cs.size = 22 := by rw [hcs]; exact Pg.cells_len eT p
   rw [← hcs] at hp
   have hb9w := hb8.out.trans hb9
   have hsA := hb9w.size
   have hBu := new_below W9 (.cells cs 35)
   have hrd : Reads (W9.alloc (.cells cs 35)) (W9.alloc (.cells cs 35)).heap.size 22 (some ⟨W9.heap.size, 0, none⟩) 1 (p.cells eT) := by
    have h := Reads.of_own (World.ownsRow_lit (base := W9.heap.size) (e := 35) (size := 22) W9 cs 1 (Nat.le_refl _) (by simp [maxLen]) hsz)
    rw [hcs] at h ⊢
    exact h
   obtain ⟨i0, hi, hz0, hz1, hz2⟩ := info_parts infoPg
   have kpG := keepG W3.heap.size
   have hb9a := below_and hb9w hBu
   have hR9 := hR.out.new kpG hb9a
   have hone : ∀ u ∈ p.cells eT, u.oneCell' = true := fun u hu => by
    have h := cells_oneE eT p
    rw [List.all_toArray] at h
    exact List.all_eq_true.1 h u hu
   have hsB : W3.heap.size ≤ (W9.alloc (.cells cs 35)).heap.size := by have h1 := hB.out.size; have h2 := hb9a.size; omega
   have hgG : GoodP W3.heap.size p (W9.alloc (.cells cs 35)) := (kpG p).new ⟨hgp.1.base_le hB.out.size, hgp.2⟩ hBu
   have hdj : ∀ b ∈ (Loc.mk A c).fp, b ∉ p.fp := fun b hb hm => by have h1 := (hR.out.ge b hb).2; have h2 := (hgp.1.ge b hm).1; omega
   replace hR9 := Lib.hid hR9
   replace hgG := Lib.hid hgG
   replace hdj := Lib.hid hdj
   replace hb9a := Lib.hid hb9a
   clear hcall hin hfc hfl
   replace hcs := Lib.hid hcs
   replace hrd := Lib.hid hrd
   replace hBu := Lib.hid hBu
   replace hgp := Lib.hid hgp
   replace hb9w := Lib.hid hb9w
   go_wp2_with (first
    | (refine wpList_load_rowW 35 (.tmp 5) rfl (by rfl) g27 rfl 35 cs (0, 0) _ hp Tryz.underlying35 rfl (by rw [hsz]; kernel_rfl) ?_; simp only [Act.put, List.setIfInBounds_toArray, List.set_cons_zero, List.set_cons_succ])
    | (at_builtin; refine Shut.out ?_))
   refine shut_mkX ?_
   rw [fill_zip _ cs 22 ?_ hsz.symm]
   rotate_left
   ·rw [hsz]; rfl
   refine wpList_append_any _ rfl (.tmp 89) (.tmp 91) 22 rfl W3.heap.size 35 i0 _ 22 320 Tryz.underlying22 hi hz0 hz1 hz2 rfl (by omega) (.slice A k c) k (ps.flatMap (Pg.cells eT)) rfl (by have h := hR9.out.row; dsimp only at h; rw [hlp] at h; exact h) _ (some ⟨W9.heap.size, 0, none⟩) 1 1 (p.cells eT) rfl hrd.out hone (by simp only [maxLen]; omega) (by omega) hsB ?_
   intro v1 w1 hown1 hg1 hv1
   obtain ⟨A', c', rfl, hRn⟩ := RowB.append hlp hR9.out kpG hgG.out hdj.out (by simpa using hown1) hg1 hv1
   have hBn := (hB.out.trans (hb9a.out.mono hB.out.size)).grown hg1 hsB (fun q hq => (hR9.out.ge q ((own_fp ⟨A, c⟩ k q).2 hq)).1)
   clear hown1 hg1 hv1
   replace hRn := Lib.hid hRn
   replace hBn := Lib.hid hBn
   go_wp2_with fail
   go_roundw
   case rel => exact ⟨k + 1, A', c', ps ++ [p], by go_num, by omega, rfl, by rw [List.length_append, hlp]; rfl, hRn.out, hBn.out⟩
   case measure => simp [intOf]; omega
  ·obtain rfl : k = 28 := by omega
   replace hR := Lib.hid hR
   replace hB := Lib.hid hB
   go_wp2_with fail
   go_ret
   have hs := hB4.out.size
   exact ⟨⟨⟨A, c⟩, ps, by rw [hlp]; rfl, hlp, hR.out.weak hs fun x hx => ⟨hx.1.base_le hs, hx.2⟩⟩, below_and hB4.out hB.out⟩
end Go.Proofs.YtnldbplphgfpeaaGreat
