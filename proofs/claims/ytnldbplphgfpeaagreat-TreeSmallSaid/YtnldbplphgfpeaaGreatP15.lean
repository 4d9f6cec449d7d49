/- Lemmas for salvor/salvorlaw29.TreeSmall (part 15); no condition. -/
import Derived.Deep.DeepCutAuto
import Derived.Test.YtnldbplphgfpeaaGreatP13
import Derived.Test.YtnldbplphgfpeaaGreatP09
import Derived.Test.YtnldbplphgfpeaaGreatP10
import Derived.Test.YtnldbplphgfpeaaGreatP12
import Derived.Test.YtnldbplphgfpeaaGreatP05
namespace Go.Proofs.YtnldbplphgfpeaaGreat
open Go Go.RowKit Go.Shelf
set_option linter.unusedVariables false
set_option linter.unusedSimpArgs false
set_option maxHeartbeats 8000000
def LexB (E : Enc) (W : World) (base : Nat) (l : Loc) (s : List (Ex Loc)) : Prop := Lex.own E W base l s ∧ ∀ b ∈ l.fp, b ∉ fps s
theorem LexB.new {E : Enc} {W W' : World} {base : Nat} {l : Loc} {s : List (Ex Loc)} (h : LexB E W base l s) (hb : Below W.heap.size W W') : LexB E W' base l s :=
 ⟨h.1.keep (only_of_below [] hb) (by simp), h.2⟩
theorem LexB.only {E : Enc} {W W' : World} {base : Nat} {l : Loc} {s : List (Ex Loc)} {g : Nat} (h : LexB E W base l s) (ho : Only [g] W W') (hg : g < base) : LexB E W' base l s :=
 ⟨h.1.keep ho (fun b hb hm => by have := (h.1.ge b hb).1; simp at hm; omega), h.2⟩
theorem LexB.nil (E : Enc) (W : World) (base : Nat) : LexB E W base ⟨none, 0⟩ [] := ⟨⟨World.ownsRow_nil _ _ _ _, trivial⟩, by intro b hb; cases hb⟩
theorem append_lexB {E : Enc} {W1 W2 : World} {base k : Nat} {A : Option Addr} {c : Nat} {ls : List (Ex Loc)} {L : Ex Loc} {v : Value} (hk : ls.length = k) (ho : LexB E W1 base ⟨A, c⟩ ls) (hL : L.own E W1 base) (hdj : ∀ b ∈ (Loc.mk A c).fp, b ∉ L.fp)
  (hrow : W2.ownsRow base E.tE 6 v (k + 1) (cellsL E ls ++ cellsL E [L])) (hg : W1.grownBy W2 (Value.slice A k c).ownBlock) (hb : v.ownBlock = (Value.slice A k c).ownBlock ∨ v.ownBlock = some W1.heap.size) :
  ∃ A' c', v = .slice A' (k + 1) c' ∧ LexB E W2 base ⟨A', c'⟩ (ls ++ [L]) := by
 obtain ⟨A', c', rfl⟩ := own_form hrow
 have hof : ∀ b, b ∈ (Loc.mk A c).fp ↔ (Value.slice A k c).ownBlock = some b := fun b => own_fp ⟨A, c⟩ k b
 have hof' : ∀ b, b ∈ (Loc.mk A' c').fp ↔ (Value.slice A' (k + 1) c').ownBlock = some b := fun b => own_fp ⟨A', c'⟩ _ b
 have hne1 : ∀ b ∈ fps ls, some b ≠ (Value.slice A k c).ownBlock := fun b hb' e => ho.2 b ((hof b).2 e.symm) hb'
 have hne2 : ∀ b ∈ L.fp, some b ≠ (Value.slice A k c).ownBlock := fun b hb' e => hdj b ((hof b).2 e.symm) hb'
 refine ⟨A', c', rfl, ⟨?_, ?_⟩, fun b hm hf => ?_⟩
 ·show W2.ownsRow base E.tE 6 (.slice A' (ls ++ [L]).length c') (ls ++ [L]).length (cellsL E (ls ++ [L]))
  rw [List.length_append, hk]
  refine own_cast hrow rfl ?_
  simp [cellsL]
 ·refine owns_iff.2 fun x hx => ?_
  rcases List.mem_append.1 hx with hx | hx
  ·have hox := owns_iff.1 ho.1.2 x hx
   exact hox.same fun b hm => hg.block b (hox.ge b hm).2 (hne1 b (fps_iff.2 ⟨x, hx, hm⟩))
  ·rw [List.mem_singleton] at hx
   subst hx
   exact hL.same fun b hm => hg.block b (hL.ge b hm).2 (hne2 b hm)
 ·rw [fps_append] at hf
  have h1 := (hof' b).1 hm
  have e1 : fps [L] = L.fp := by simp [fps]
  rw [e1] at hf
  rcases hb with hb | hb
  ·rw [hb] at h1
   rcases List.mem_append.1 hf with hf | hf
   ·exact hne1 b hf h1.symm
   ·exact hne2 b hf h1.symm
  ·rw [hb] at h1
   cases h1
   rcases List.mem_append.1 hf with hf | hf
   ·obtain ⟨x, hx, hm'⟩ := fps_iff.1 hf
    have := ((owns_iff.1 ho.1.2 x hx).ge _ hm').2
    omega
   ·have := (hL.ge _ hf).2
    omega
theorem wrap_small {x : Int} (h0 : 0 ≤ x) (h1 : x < 4294967296) : IntKind.i64.wrap x = x := by
 simp [IntKind.wrap, IntKind.bits, IntKind.signed]
 omega
theorem infoRE : (Tryz.prog.info? 70).map (fun i => (i.zero, i.size, i.bytes)) = some (some (.agg #[.int .i64 0, .int .i64 0, .int .i64 0, .int .i64 0, .string ⟨#[]⟩, .slice none 0 0]), 6, 72) := by kernel_rfl
theorem infoRD : (Tryz.prog.info? 139).map (fun i => (i.zero, i.size, i.bytes)) = some (some (.agg #[.string ⟨#[]⟩, .int .i64 0, .int .i64 0]), 3, 32) := by kernel_rfl
set_option maxRecDepth 100000 in
theorem theirD (l : Loc) (ds : List Dc) (w : World) (h : RowIn w 3 l ds.length (cellsD ds)) (hn1 : ds.length ≤ 60000) :
  Calls Tryz.prog 102 #[.slice l.A ds.length l.c] w fun r w' => (∃ (A : Option Addr) (c : Nat), r = .returned (.slice A ds.length c) ∧ w'.ownsRow w.heap.size 139 3 (.slice A ds.length c) ds.length (cellsD ds)) ∧ Below w.heap.size w w' := by
 obtain ⟨n, hn⟩ : ∃ n, n = ds.length := ⟨_, rfl⟩
 rw [← hn] at hn1
 rw [← hn]
 have n63 : (n : Int) ≤ 60000 := by omega
 obtain ⟨i0, hi, hz0, hz1, hz2⟩ := info_parts infoRD
 replace hi := Lib.hid hi
 replace hz0 := Lib.hid hz0
 replace hz1 := Lib.hid hz1
 replace hz2 := Lib.hid hz2
 replace hn := Lib.hid hn
 replace h := Lib.hid h
 obtain ⟨lA, lc⟩ := l
 go_enter Tryz.func102, Tryz.ntmps102
 go_wp2_with fail
 go_loopw [3, 8] (fun v3 v8 wr => ∃ (k : Nat) (A : Option Addr) (c : Nat), v8 = .int .i64 k ∧ k ≤ n ∧ v3 = .slice A k c ∧ wr.ownsRow w.heap.size 139 3 (.slice A k c) k (cellsD (ds.take k)) ∧ Below w.heap.size w wr) (fun _ v8 _ => n - (intOf v8).toNat)
 case atStart => exact ⟨0, none, 0, rfl, Nat.zero_le _, rfl, World.ownsRow_nil _ _ _ _, Below.refl _ _⟩
 case round =>
  obtain ⟨k, A, c, rfl, hk, rfl, hown, hB⟩ := hrel
  have k0 : 0 ≤ (k : Int) := by omega
  by_cases hlt : k < n
  ·have hx : ds[k]? = some (ds[k]'(by have := hn.out; omega)) := List.getElem?_eq_getElem (by have := hn.out; omega)
   generalize ds[k]'(by have := hn.out; omega) = x at hx
   obtain ⟨ad, hA, _, hcx⟩ := RowIn.dc (h.out.all (keeps_below hB)) hx
   have hnext : cellsD (ds.take (k + 1)) = cellsD (ds.take k) ++ cellsD [x] := by
    obtain ⟨h1, h2⟩ := List.getElem?_eq_some_iff.1 hx
    rw [List.take_succ_eq_append_getElem h1, h2, cellsD_append]
   obtain ⟨xn, xw, xs⟩ := x
   obtain ⟨d0, d1, d2⟩ := CellsAt.c3 hcx
   dsimp only at hA
   subst hA
   have k1 : (k : Int) < (n : Int) := by omega
   have hab := cell_lt d0
   have hBx := ((Below.refl _ wr).alloc (Nat.le_refl _) (.cells #[.string xn, .int .i64 xw, .int .i64 xs] 60)).alloc (by simp) (.cells #[.string xn, .int .i64 xw, .int .i64 xs] 139)
   have hownx := own_only hown (only_of_below [] hBx) (by simp)
   have hrd := Reads.of_own (World.ownsRow_lit (base := 0) (e := 139) (size := 3) (wr.alloc (.cells #[.string xn, .int .i64 xw, .int .i64 xs] 60)) #[.string xn, .int .i64 xw, .int .i64 xs] 1 (Nat.zero_le _) (by simp [maxLen]) rfl)
   simp only [World.size_alloc] at hrd
   have hB6 := below_and hB hBx
   have hs6 := hB6.size
   replace hB6 := Lib.hid hB6
   replace hnext := Lib.hid hnext
   replace hx := Lib.hid hx
   go_wp2_with (at_builtin; refine wpList_append_any _ rfl (.tmp 12) (.tmp 14) 67 rfl w.heap.size 139 i0 _ 3 32 Tryz.underlying67 hi.out hz0.out hz1.out hz2.out rfl (by omega) (.slice A k c) k (cellsD (ds.take k)) rfl hownx _ (some ⟨wr.heap.size + 1, 0, none⟩) 1 1 (cellsD [⟨xn, xw, xs⟩]) rfl hrd (cellsD_one _) (by simp only [maxLen]; omega) (by omega) hs6 ?_; intro v2 w2 hown5 hg5 _)
   go_roundw
   case rel =>
    obtain ⟨A', c', rfl⟩ := own_form hown5
    refine ⟨k + 1, A', c', by go_num, by omega, rfl, ?_, hB6.out.grown hg5 hs6 (fun q hq => (hownx.lt q hq).1)⟩
    rw [hnext.out]
    exact hown5
   case measure => simp [intOf]; omega
  ·obtain rfl : n = k := by omega
   have hkn : ds.take n = ds := List.take_of_length_le (by have := hn.out; omega)
   rw [hkn] at hown
   replace hown := Lib.hid hown
   clear hkn
   go_wp2_with fail
   go_ret
   exact ⟨⟨A, c, rfl, hown.out⟩, hB⟩
def ThX (e : Ex Loc) : Prop := ∀ (w : World), e.ok eT w → e.all Hd.rng → e.sz ≤ 60000 → Calls Tryz.prog 62 #[aggX e] w fun r w' => (∃ (yk yo yv yw : Int) (yn : ByteArray) (yA : Option Addr) (yc : Nat) (ys : List (Ex Loc)),
  r = .returned (.agg #[.int .i64 yk, .int .i64 yo, .int .i64 yv, .int .i64 yw, .string yn, .slice yA ys.length yc]) ∧ (Ex.mk ⟨yk, yo, yv, yw, yn⟩ (⟨yA, yc⟩ : Loc) ys).plain = e.plain ∧ (Ex.mk ⟨yk, yo, yv, yw, yn⟩ (⟨yA, yc⟩ : Loc) ys).own eR w' w.heap.size) ∧ Below w.heap.size w w'
set_option maxRecDepth 100000 in
theorem theirX : ∀ e : Ex Loc, ThX e := by
 intro e
 induction e using Ex.ind with
 | h hd lc ss ih =>
 intro w hok hrng hsz
 have hrow : Lex.ok eT w lc ss := hok
 obtain ⟨⟨r1, r1'⟩, ⟨r2, r2'⟩, r3, r3'⟩ := hrng.1
 have hrs := allX_iff.1 hrng.2
 have hszs : szs ss ≤ 60000 := by simp only [Ex.sz] at hsz; omega
 have hln := szs_len ss
 obtain ⟨n, hn⟩ : ∃ n, n = ss.length := ⟨_, rfl⟩
 have n63 : (n : Int) ≤ 60000 := by omega
 obtain ⟨xk, xo, xv, xw, xn⟩ := hd
 dsimp only at r1 r1' r2 r2' r3 r3'
 obtain ⟨lA, lcap⟩ := lc
 have hpl : (Ex.mk ⟨xk, xo, xv, xw, xn⟩ (⟨lA, lcap⟩ : Loc) ss).plain = Ex.mk ⟨xk, xo, xv, xw, xn⟩ () (plains ss) := rfl
 rw [hpl]
 simp only [aggX, Ex.cells, eT]
 rw [← hn]
 have w1 := wrap_small r1 (by omega)
 have w2 := wrap_small r2 (by omega)
 have w3 := wrap_small r3 r3'
 obtain ⟨W0, hW0⟩ : ∃ W, ((w.alloc (.cells #[.int .u8 xk, .int .u8 xo, .int .u32 xv, .int .i64 xw, .string xn, .slice lA n lcap] 30)).alloc (.cells #[.int .i64 0, .int .i64 0, .int .i64 0, .int .i64 0, .string ⟨#[]⟩, .slice none 0 0] 70)).alloc (.cells #[.int .i64 xk, .int .i64 xo, .int .i64 xv, .int .i64 xw, .string xn, .slice none 0 0] 70) = W := ⟨_, rfl⟩
 have hB0 := (((Below.refl _ w).alloc (Nat.le_refl _) (.cells #[.int .u8 xk, .int .u8 xo, .int .u32 xv, .int .i64 xw, .string xn, .slice lA n lcap] 30)).alloc (by simp) (.cells #[.int .i64 0, .int .i64 0, .int .i64 0, .int .i64 0, .string ⟨#[]⟩, .slice none 0 0] 70)).alloc (by simp only [World.size_alloc]; omega) (.cells #[.int .i64 xk, .int .i64 xo, .int .i64 xv, .int .i64 xw, .string xn, .slice none 0 0] 70)
 have hb1 := ((Blk.new w 30 #[.int .u8 xk, .int .u8 xo, .int .u32 xv, .int .i64 xw, .string xn, .slice lA n lcap]).alloc (.cells #[.int .i64 0, .int .i64 0, .int .i64 0, .int .i64 0, .string ⟨#[]⟩, .slice none 0 0] 70)).alloc (.cells #[.int .i64 xk, .int .i64 xo, .int .i64 xv, .int .i64 xw, .string xn, .slice none 0 0] 70)
 have hb2 := (Blk.new (w.alloc (.cells #[.int .u8 xk, .int .u8 xo, .int .u32 xv, .int .i64 xw, .string xn, .slice lA n lcap] 30)) 70 #[.int .i64 0, .int .i64 0, .int .i64 0, .int .i64 0, .string ⟨#[]⟩, .slice none 0 0]).alloc (.cells #[.int .i64 xk, .int .i64 xo, .int .i64 xv, .int .i64 xw, .string xn, .slice none 0 0] 70)
 have hb3 := Blk.new ((w.alloc (.cells #[.int .u8 xk, .int .u8 xo, .int .u32 xv, .int .i64 xw, .string xn, .slice lA n lcap] 30)).alloc (.cells #[.int .i64 0, .int .i64 0, .int .i64 0, .int .i64 0, .string ⟨#[]⟩, .slice none 0 0] 70)) 70 #[.int .i64 xk, .int .i64 xo, .int .i64 xv, .int .i64 xw, .string xn, .slice none 0 0]
 have hs0 : (((w.alloc (.cells #[.int .u8 xk, .int .u8 xo, .int .u32 xv, .int .i64 xw, .string xn, .slice lA n lcap] 30)).alloc (.cells #[.int .i64 0, .int .i64 0, .int .i64 0, .int .i64 0, .string ⟨#[]⟩, .slice none 0 0] 70)).alloc (.cells #[.int .i64 xk, .int .i64 xo, .int .i64 xv, .int .i64 xw, .string xn, .slice none 0 0] 70)).heap.size = w.heap.size + 3 := by simp only [World.size_alloc]
 simp only [World.size_alloc] at hb2 hb3
 rw [hW0] at hB0 hb1 hb2 hb3 hs0
 have v5 := hb1.cell 5
 simp only [List.getElem?_toArray, List.getElem?_cons_zero, List.getElem?_cons_succ] at v5
 have l5 := hb1.lt
 clear hb1
 obtain ⟨i0, hi, hz0, hz1, hz2⟩ := info_parts infoRE
 obtain ⟨g2, hg2⟩ : ∃ g, w.heap.size + 1 = g := ⟨_, rfl⟩
 obtain ⟨g3, hg3⟩ : ∃ g, w.heap.size + 1 + 1 = g := ⟨_, rfl⟩
 rw [hg2] at hb2
 rw [hg3] at hb3
 replace hi := Lib.hid hi
 replace hz0 := Lib.hid hz0
 replace hz1 := Lib.hid hz1
 replace hz2 := Lib.hid hz2
 replace hn := Lib.hid hn
 replace hrs := Lib.hid hrs
 replace ih := Lib.hid ih
 replace hrow := Lib.hid hrow
 replace hW0 := Lib.hid hW0
 replace hB0 := Lib.hid hB0
 replace hb2 := Lib.hid hb2
 replace hb3 := Lib.hid hb3
 replace hs0 := Lib.hid hs0
 replace hszs := Lib.hid hszs
 clear hok hrng hsz hpl hln
 go_enter Tryz.func62, Tryz.ntmps62
 have v5' := Lib.hid v5
 have l5' := Lib.hid l5
 clear v5 l5
 have hg2' := Lib.hid hg2
 have hg3' := Lib.hid hg3
 clear hg2 hg3
 go_upto_region 2 with (fail)
 rw [hW0.out, hg3'.out, hg2'.out]
 have v5 := v5'.out
 have l5 := l5'.out
 clear v5' l5'
 have hg2 := hg2'.out
 have hg3 := hg3'.out
 go_wp2_with fail
 replace hg2 := Lib.hid hg2
 replace hg3 := Lib.hid hg3
 have hW0s : W0.heap.size = w.heap.size + 3 := hs0.out
 replace hW0s := Lib.hid hW0s
 clear w1 w2 w3 hs0
 go_loopw [23] (fun v23 wr => ∃ (k : Nat) (A : Option Addr) (c : Nat) (ls : List (Ex Loc)), v23 = .int .i64 k ∧ k ≤ n ∧ ls.length = k ∧ plains ls = plains (ss.take k) ∧ Blk wr g2 70 #[.int .i64 0, .int .i64 0, .int .i64 0, .int .i64 0, .string ⟨#[]⟩, .slice none 0 0] ∧ Blk wr g3 70 #[.int .i64 xk, .int .i64 xo, .int .i64 xv, .int .i64 xw, .string xn, .slice A k c] ∧ LexB eR wr W0.heap.size ⟨A, c⟩ ls ∧ Below w.heap.size w wr ∧ W0.heap.size ≤ wr.heap.size) (fun v23 _ => n - (intOf v23).toNat)
 case atStart => exact ⟨0, none, 0, [], rfl, Nat.zero_le _, rfl, rfl, hb2.out, hb3.out, LexB.nil _ _ _, hB0.out, Nat.le_refl _⟩
 case round =>
  obtain ⟨k, A, c, ls, rfl, hk, hlk, hpk, hb2, hb3, hX, hB, hWs⟩ := hrel
  have k0 : 0 ≤ (k : Int) := by omega
  by_cases hlt : k < n
  ·have hx : ss[k]? = some (ss[k]'(by have := hn.out; omega)) := List.getElem?_eq_getElem (by have := hn.out; omega)
   generalize ss[k]'(by have := hn.out; omega) = x at hx
   have hmem := List.mem_of_getElem? hx
   obtain ⟨ad, hA, _, _, hxok, hcx⟩ := (hrow.out.all (keeps_below hB)).at hx
   have hcall := fun w2 (h2 : Below wr.heap.size wr w2) => ih.out x hmem w2 (hxok.below h2) (hrs.out x hmem) (by have := szs_mem hmem; have := hszs.out; omega)
   have hnext : plains (ss.take (k + 1)) = plains (ss.take k) ++ [x.plain] := by
    obtain ⟨q1, q2⟩ := List.getElem?_eq_some_iff.1 hx
    rw [List.take_succ_eq_append_getElem q1, q2, plains_map, plains_map, List.map_append]
    rfl
   obtain ⟨⟨yk, yo, yv, yw, yn⟩, ⟨yA, yc⟩, ys⟩ := x
   obtain ⟨d0, d1, d2, d3, d4, d5⟩ := CellsAt.c6 hcx
   dsimp only at hA
   simp only [aggX, Ex.cells, eT] at d0 d1 d2 hcall
   subst hA
   have k1 : (k : Int) < (n : Int) := by omega
   have hab := cell_lt d0
   have hg3e : g3 < W0.heap.size := by have h1 := hg3.out; have h2 := hW0s.out; omega
   have hg3w : w.heap.size ≤ g3 := by have h1 := hg3.out; omega
   have hg2e : g2 < g3 := by have h1 := hg3.out; have h2 := hg2.out; omega
   have hBx := (Below.refl _ wr).alloc (Nat.le_refl _) (.cells #[.int .u8 yk, .int .u8 yo, .int .u32 yv, .int .i64 yw, .string yn, .slice yA ys.length yc] 30)
   have hby := Blk.new wr 30 #[.int .u8 yk, .int .u8 yo, .int .u32 yv, .int .i64 yw, .string yn, .slice yA ys.length yc]
   obtain ⟨gy, hgy⟩ : ∃ g, wr.heap.size = g := ⟨_, rfl⟩
   rw [hgy] at hby
   have hX9 : ∀ b ∈ (Loc.mk A c).fp, W0.heap.size ≤ b ∧ b < wr.heap.size := fun b hb => hX.1.ge b (List.mem_append_left _ hb)
   replace hX9 := Lib.hid hX9
   replace hby := Lib.hid hby
   replace hgy := Lib.hid hgy
   replace hnext := Lib.hid hnext
   replace hx := Lib.hid hx
   replace hcall := Lib.hid hcall
   replace hBx := Lib.hid hBx
   replace hb2 := Lib.hid hb2
   replace hb3 := Lib.hid hb3
   replace hX := Lib.hid hX
   replace hpk := Lib.hid hpk
   replace hlk := Lib.hid hlk
   clear hxok hcx
   go_upto_region 5 with (fail)
   generalize wr.alloc (.cells #[.int .u8 yk, .int .u8 yo, .int .u32 yv, .int .i64 yw, .string yn, .slice yA ys.length yc] 30) = Wx at *
   rw [hgy.out]
   clear d0 d1 d2 d3 d4 d5 hab
   have hBd := below_and hBx.out ((Below.refl _ Wx).drew)
   have hc := Lib.hid (hcall.out _ hBd)
   have hb3x := hb3.out.below hBx.out hb3.out.lt
   have hb3d := Lib.hid (hb3.out.below hBd hb3.out.lt)
   have hb2d := Lib.hid (hb2.out.below hBd hb2.out.lt)
   have hbyd := Lib.hid (hby.out.below ((Below.refl _ Wx).drew) hby.out.lt)
   have hXd := Lib.hid (hX.out.new hBd)
   have hBe := Lib.hid (below_and hB hBd)
   have hrs1 : wr.heap.size ≤ Wx.drew.heap.size := hBd.size
   clear hcall hb2 hb3 hX hBd
   skip
   obtain ⟨S, hSi, hSe⟩ : ∃ S : World → Prop, (∀ W, (W.cell? ⟨g3, 5, none⟩ = some (.slice A k c) ∧ W.cell? ⟨gy, 0, none⟩ = some (.int .u8 yk) ∧ W.cell? ⟨gy, 1, none⟩ = some (.int .u8 yo) ∧ W.cell? ⟨gy, 2, none⟩ = some (.int .u32 yv) ∧ W.cell? ⟨gy, 3, none⟩ = some (.int .i64 yw) ∧ W.cell? ⟨gy, 4, none⟩ = some (.string yn) ∧ W.cell? ⟨gy, 5, none⟩ = some (.slice yA ys.length yc)) → S W) ∧ (∀ W, S W → (W.cell? ⟨g3, 5, none⟩ = some (.slice A k c) ∧ W.cell? ⟨gy, 0, none⟩ = some (.int .u8 yk) ∧ W.cell? ⟨gy, 1, none⟩ = some (.int .u8 yo) ∧ W.cell? ⟨gy, 2, none⟩ = some (.int .u32 yv) ∧ W.cell? ⟨gy, 3, none⟩ = some (.int .i64 yw) ∧ W.cell? ⟨gy, 4, none⟩ = some (.string yn) ∧ W.cell? ⟨gy, 5, none⟩ = some (.slice yA ys.length yc))) := ⟨fun W => W.cell? ⟨g3, 5, none⟩ = some (.slice A k c) ∧ W.cell? ⟨gy, 0, none⟩ = some (.int .u8 yk) ∧ W.cell? ⟨gy, 1, none⟩ = some (.int .u8 yo) ∧ W.cell? ⟨gy, 2, none⟩ = some (.int .u32 yv) ∧ W.cell? ⟨gy, 3, none⟩ = some (.int .i64 yw) ∧ W.cell? ⟨gy, 4, none⟩ = some (.string yn) ∧ W.cell? ⟨gy, 5, none⟩ = some (.slice yA ys.length yc), fun _ h => h, fun _ h => h⟩
   have hS : S Wx.drew := hSi _ ⟨hb3x.cell 5, hby.out.cell 0, hby.out.cell 1, hby.out.cell 2, hby.out.cell 3, hby.out.cell 4, hby.out.cell 5⟩
   replace hSi := Lib.hid hSi
   replace hSe := Lib.hid hSe
   refine wp_region_T (S := S) (St := [7]) (by kernel_rfl) ?_
   change wpAnyT _ _ _ _ _ _ _ _ _ (World.drew _)
   refine pureT 0 (v := ?_) rfl (by kernel_rfl) (by kernel_rfl) (by kernel_rfl) (by kernel_rfl) (fun _ _ _ h => h) (by rfl) (fun _ => hS) ?_ ?_
   rotate_left
   ·(intro wz; go_simp; try with_reducible rfl)
   try simp only [Act.put, List.setIfInBounds_toArray, List.set_cons_zero, List.set_cons_succ]
   refine takeT 1 (v := .slice A k c) rfl (by kernel_rfl) (by kernel_rfl) (by kernel_rfl) (by kernel_rfl) (fun _ _ _ h => h) (by rfl) hS ?_ ?_
   ·(intro wz hSw; obtain ⟨z0, z1, z2, z3, z4, z5, z6⟩ := hSe.out _ hSw; go_simp)
   try simp only [Act.put, List.setIfInBounds_toArray, List.set_cons_zero, List.set_cons_succ]
   refine takeT 2 (v := .agg #[.int .u8 yk, .int .u8 yo, .int .u32 yv, .int .i64 yw, .string yn, .slice yA ys.length yc]) rfl (by kernel_rfl) (by kernel_rfl) (by kernel_rfl) (by kernel_rfl) (fun _ _ _ h => h) (by rfl) hS ?_ ?_
   ·(intro wz hSw; obtain ⟨z0, z1, z2, z3, z4, z5, z6⟩ := hSe.out _ hSw; go_simp)
   try simp only [Act.put, List.setIfInBounds_toArray, List.set_cons_zero, List.set_cons_succ]
   refine callT 3 rfl (by kernel_rfl) (fun K hK => ?_)
   go_simp
   go_wp2_with (go_at_call 62; refine hc.out.mono ?_; rintro e V1 ⟨⟨zk, zo, zv, zw, zn, zA, zc, zs, rfl, hzp, hzo⟩, hB2⟩)
   have hb3e := hb3d.out.below hB2 hb3d.out.lt
   have hb2e := hb2d.out.below hB2 hb2d.out.lt
   have hbye := hbyd.out.below hB2 hbyd.out.lt
   have hXe := hXd.out.new hB2
   have hBf := below_and hBe.out hB2
   have hs1 := hB2.size
   refine hK.out _ _ (hSi.out _ ⟨hb3e.cell 5, hbye.cell 0, hbye.cell 1, hbye.cell 2, hbye.cell 3, hbye.cell 4, hbye.cell 5⟩) (fun hSn => ?_)
   clear hK K hS
   have hS := hSn
   clear hSn
   refine callT 4 rfl (by kernel_rfl) (fun K hK => ?_)
   go_simp
   have hBz := (Below.refl _ V1).alloc (Nat.le_refl _) (.cells #[.int .i64 zk, .int .i64 zo, .int .i64 zv, .int .i64 zw, .string zn, .slice zA zs.length zc] 70)
   have hb3f := hb3e.below hBz hb3e.lt
   have hb2f := hb2e.below hBz hb2e.lt
   have hbyf := hbye.below hBz hbye.lt
   have hXf := hXe.new hBz
   have hBg := below_and hBf hBz
   have hzf := hzo.keep (only_of_below [] hBz) (by simp)
   have hrd := Reads.of_own (World.ownsRow_lit (base := V1.heap.size) (e := 70) (size := 6) V1 #[.int .i64 zk, .int .i64 zo, .int .i64 zv, .int .i64 zw, .string zn, .slice zA zs.length zc] 1 (Nat.le_refl _) (by simp [maxLen]) rfl)
   have hs2 := hBz.size
   refine hK.out _ _ (hSi.out _ ⟨hb3f.cell 5, hbyf.cell 0, hbyf.cell 1, hbyf.cell 2, hbyf.cell 3, hbyf.cell 4, hbyf.cell 5⟩) (fun hSn => ?_)
   clear hK K hS
   have hS := hSn
   clear hSn
   refine callT 5 rfl (by kernel_rfl) (fun K hK => ?_)
   generalize (V1.alloc (.cells #[.int .i64 zk, .int .i64 zo, .int .i64 zv, .int .i64 zw, .string zn, .slice zA zs.length zc] 70)) = V2 at *
   refine step_append_any (w := V2) (by rfl) (.tmp 28) (.tmp 31) 68 (by rfl) W0.heap.size 70 i0 _ 6 72 Tryz.underlying68 hi.out hz0.out hz1.out hz2.out rfl (by omega) (.slice A k c) k (cellsL eR ls) (by rfl) (by have h1 := hXf.1.1; dsimp only at h1; rw [hlk.out] at h1; exact h1) _ (some ⟨V1.heap.size, 0, none⟩) 1 1 (cellsL eR [(Ex.mk ⟨zk, zo, zv, zw, zn⟩ (⟨zA, zc⟩ : Loc) zs)]) (by rfl) (by have h2 := hrd; simpa [cellsL, Ex.cells, eR] using h2) (cellsL_one _ _) (by simp only [maxLen]; omega) (by omega) (by omega) ?_
   intro v8 V3 hown8 hg8 hb8
   obtain ⟨A', c', rfl, hX8⟩ := append_lexB (L := (Ex.mk ⟨zk, zo, zv, zw, zn⟩ (⟨zA, zc⟩ : Loc) zs)) hlk.out hXf (hzf.base_le (by omega)) (fun b hb hm => by have h1 := (hX9.out b hb).2; have h2 := (hzo.ge b hm).1; omega) hown8 hg8 hb8
   have hne : ∀ b, (Value.slice A k c).ownBlock = some b → W0.heap.size ≤ b := fun b hb => (hXf.1.ge b (List.mem_append_left _ ((own_fp ⟨A, c⟩ k b).2 hb))).1
   have hb3g := hb3f.grown hg8 (fun e => by have := hne g3 e.symm; omega)
   have hb2g := hb2f.grown hg8 (fun e => by have := hne g2 e.symm; omega)
   have hbyg := hbyf.grown hg8 (fun e => by have h1 := (own_fp ⟨A, c⟩ k gy).2 e.symm; have h2 := hX9.out gy h1; have h3 := hgy.out; omega)
   have hBh := hBg.grown hg8 (by have := hBg.size; omega) (fun q hq => by have := hne q hq; omega)
   have g3c := hb3g.cell 5
   have f3c := hb3g.frozen 5
   have l3c := hb3g.lt
   have hsz3 : V2.heap.size ≤ V3.heap.size := hg8.size
   have hst3 : Blk (V3.setCell ⟨g3, 5, none⟩ (.slice A' (k + 1) c')) g3 70 #[.int .i64 xk, .int .i64 xo, .int .i64 xv, .int .i64 xw, .string xn, .slice A' (k + 1) c'] := hb3g.set_ 5 _
   have ho3 : Only [g3] V3 (V3.setCell ⟨g3, 5, none⟩ (.slice A' (k + 1) c')) := (Only.refl [g3] V3).setCell (.inl (by simp)) _
   have hst2 := hb2g.only ho3 (by simp; omega)
   have hstX := hX8.only ho3 hg3e
   have hstB : Below w.heap.size w (V3.setCell ⟨g3, 5, none⟩ (.slice A' (k + 1) c')) := hBh.trans (ho3.below (by have := hBh.size; omega) (by simp; omega))
   have hstS : W0.heap.size ≤ (V3.setCell ⟨g3, 5, none⟩ (.slice A' (k + 1) c')).heap.size := by have := ho3.size; omega
   replace hstS := Lib.hid hstS
   replace hst3 := Lib.hid hst3
   replace hst2 := Lib.hid hst2
   replace hstX := Lib.hid hstX
   replace hstB := Lib.hid hstB
   replace hzp := Lib.hid hzp
   simp only [List.getElem?_toArray, List.getElem?_cons_zero, List.getElem?_cons_succ] at g3c
   clear hown8 hg8 hb8 hX8 hne hb3f hb2f hbyf hXf hBg hzf hrd hb2g hBh ho3 hb3e hb2e hbye hXe hBf hzo
   refine hK.out _ _ (hSi.out _ ⟨hb3g.cell 5, hbyg.cell 0, hbyg.cell 1, hbyg.cell 2, hbyg.cell 3, hbyg.cell 4, hbyg.cell 5⟩) (fun hSn => ?_)
   clear hK K hS
   have hS := hSn
   clear hSn
   refine pureT 6 (v := ?_) rfl (by kernel_rfl) (by kernel_rfl) (by kernel_rfl) (by kernel_rfl) (fun _ _ _ h => h) (by rfl) (fun _ => hS) ?_ ?_
   rotate_left
   ·(intro wz; go_simp; try with_reducible rfl)
   try simp only [Act.put, List.setIfInBounds_toArray, List.set_cons_zero, List.set_cons_succ]
   refine storeT 7 rfl (by kernel_rfl) (by kernel_rfl) (fun K hK => ?_)
   clear hb3g hbyg
   go_simp
   go_wp2_with fail
   refine hK.out _ _ ?_
   clear hK K
   refine wpAnyT_done (by kernel_rfl) ?_ _
   clear hS hSi hSe g3c f3c l3c
   go_wp2_with fail
   go_roundw
   case rel =>
    refine ⟨k + 1, A', c', ls ++ [(Ex.mk ⟨zk, zo, zv, zw, zn⟩ (⟨zA, zc⟩ : Loc) zs)], by go_num, by omega, by rw [List.length_append, hlk.out]; rfl, ?_, hst2.out, hst3.out, hstX.out, hstB.out, ?_⟩
    ·rw [hnext.out, plains_map, List.map_append, ← plains_map, hpk.out]
     show _ ++ [(Ex.mk ⟨zk, zo, zv, zw, zn⟩ (⟨zA, zc⟩ : Loc) zs).plain] = _
     rw [hzp.out]
    ·exact hstS.out
   case measure => simp [intOf]; omega
  ·obtain rfl : n = k := by omega
   have hkn : ss.take n = ss := List.take_of_length_le (by have := hn.out; omega)
   rw [hkn] at hpk
   have hg3e : g3 < W0.heap.size := by have h1 := hg3.out; have h2 := hW0s.out; omega
   have hg2w : w.heap.size ≤ g2 := by have h1 := hg2.out; omega
   have z0 := hb3.cell 0
   have z1 := hb3.cell 1
   have z2 := hb3.cell 2
   have z3 := hb3.cell 3
   have z4 := hb3.cell 4
   have z5 := hb3.cell 5
   have y0 := hb2.cell 0
   have y1 := hb2.cell 1
   have y2 := hb2.cell 2
   have y3 := hb2.cell 3
   have y4 := hb2.cell 4
   have y5 := hb2.cell 5
   have q0 := hb2.frozen 0
   have q1 := hb2.frozen 1
   have q2 := hb2.frozen 2
   have q3 := hb2.frozen 3
   have q4 := hb2.frozen 4
   have q5 := hb2.frozen 5
   have l2 := hb2.lt
   have l3 := hb3.lt
   simp only [List.getElem?_toArray, List.getElem?_cons_zero, List.getElem?_cons_succ] at z0 z1 z2 z3 z4 z5 y0 y1 y2 y3 y4 y5
   have hbf := (((((hb2.set_ 0 (.int .i64 xk)).set_ 1 (.int .i64 xo)).set_ 2 (.int .i64 xv)).set_ 3 (.int .i64 xw)).set_ 4 (.string xn)).set_ 5 (.slice A n c)
   simp only [List.setIfInBounds_toArray, List.set_cons_zero, List.set_cons_succ] at hbf
   have hof : Only [g2] wr ((((((wr.setCell ⟨g2, 0, none⟩ (.int .i64 xk)).setCell ⟨g2, 1, none⟩ (.int .i64 xo)).setCell ⟨g2, 2, none⟩ (.int .i64 xv)).setCell ⟨g2, 3, none⟩ (.int .i64 xw)).setCell ⟨g2, 4, none⟩ (.string xn)).setCell ⟨g2, 5, none⟩ (.slice A n c)) :=
    ((((((Only.refl _ _).setCell (.inl (by simp)) _).setCell (.inl (by simp)) _).setCell (.inl (by simp)) _).setCell (.inl (by simp)) _).setCell (.inl (by simp)) _).setCell (.inl (by simp)) _
   have hXf := hX.only hof (by have h1 := hg2.out; have h2 := hW0s.out; omega)
   have hBz : Below w.heap.size w ((((((wr.setCell ⟨g2, 0, none⟩ (.int .i64 xk)).setCell ⟨g2, 1, none⟩ (.int .i64 xo)).setCell ⟨g2, 2, none⟩ (.int .i64 xv)).setCell ⟨g2, 3, none⟩ (.int .i64 xw)).setCell ⟨g2, 4, none⟩ (.string xn)).setCell ⟨g2, 5, none⟩ (.slice A n c)) := hB.trans (hof.below (by have := hB.size; omega) (by simp; omega))
   replace hbf := Lib.hid hbf
   replace hXf := Lib.hid hXf
   replace hBz := Lib.hid hBz
   replace hpk := Lib.hid hpk
   replace hlk := Lib.hid hlk
   clear hof hX hb2 hb3 hkn
   go_wp2_with fail
   refine bodyPost_ret (results_cell_row rfl _ _ g2 70 _ (0, 0) _ rfl hbf.out Tryz.underlying70 rfl (by kernel_rfl)) rfl ?_
   refine ⟨⟨xk, xo, xv, xw, xn, A, c, ls, by rw [hlk.out], ?_, ?_⟩, hBz.out⟩
   ·show Ex.mk _ () (plains ls) = _
    rw [hpk.out]
   ·exact (hXf.out.1).base_le (by have h2 := hW0s.out; omega)
end Go.Proofs.YtnldbplphgfpeaaGreat
namespace Go.Proofs.YtnldbplphgfpeaaGreat
open Go Go.RowKit Go.Shelf
set_option linter.unusedVariables false
set_option linter.unusedSimpArgs false
theorem callH2 {P : Program} {md : Region.Mode} {L : List Oper} {Q : Exit → Act → World → Prop} {S : World → Prop} (i j : Nat) {oi oj : Oper} {fuel : Nat} {listed : Array Bool} {a : Act} {w : World} (hi : L[i]? = some oi) (hj : L[j]? = some oj)
  (hr : Region.ready md L.toArray listed = [i, j])
  (h : ∀ K' : Act → World → Prop, Shut (∀ a w, S w → (S w → wpAnyH P md L.toArray Q S fuel (listed.setIfInBounds i true) a w) → K' a w) → if Region.wanted oi (yielded L.toArray a.tmps) = true then Oper.wp P oi a w K' Q else K' (a.put oi.dst undef) w)
  (h' : ∀ K' : Act → World → Prop, Shut (∀ a w, S w → (S w → wpAnyH P md L.toArray Q S fuel (listed.setIfInBounds j true) a w) → K' a w) → if Region.wanted oj (yielded L.toArray a.tmps) = true then Oper.wp P oj a w K' Q else K' (a.put oj.dst undef) w) : wpAnyH P md L.toArray Q S (fuel + 1) listed a w :=
 wpAnyH_ready hr (by simp) (AllReadyH.cons (by simpa using hi) h (AllReadyH.cons (by simpa using hj) h' AllReadyH.nil))
end Go.Proofs.YtnldbplphgfpeaaGreat
