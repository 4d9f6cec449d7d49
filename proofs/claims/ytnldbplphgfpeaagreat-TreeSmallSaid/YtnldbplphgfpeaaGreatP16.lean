/- Lemmas for salvor/salvorlaw29.TreeSmall (part 16); no condition. -/
import Derived.Test.YtnldbplphgfpeaaGreatP15
import Derived.Test.YtnldbplphgfpeaaGreatP11
import Derived.Test.YtnldbplphgfpeaaGreatP13
namespace Go.Proofs.YtnldbplphgfpeaaGreat
open Go Go.RowKit Go.Shelf
set_option linter.unusedVariables false
set_option linter.unusedSimpArgs false
set_option maxHeartbeats 16000000
theorem blk_put6 {b t : Nat} {W : World} {cs vs : Array Value} (h : Blk W b t cs) (hs : vs.size = cs.size) : Blk (W.setCells b 0 vs.toList) b t vs := by
 have := blk_setCells vs.toList cs.toList [] [] 0 W (by simpa using h) rfl (by simp [hs])
 simpa using this
def LstB (E : Enc) (W : World) (base : Nat) (l : Loc) (s : List (St Loc)) : Prop := Lst.own E W base l s ∧ ∀ b ∈ l.fp, b ∉ fpS s
theorem LstB.new {E : Enc} {W W' : World} {base : Nat} {l : Loc} {s : List (St Loc)} (h : LstB E W base l s) (hb : Below W.heap.size W W') : LstB E W' base l s :=
 ⟨h.1.same fun b hm => hb.block b (h.1.ge b hm).2, h.2⟩
theorem Lst.own.new {E : Enc} {W W' : World} {base : Nat} {l : Loc} {s : List (St Loc)} (h : Lst.own E W base l s) (hb : Below W.heap.size W W') : Lst.own E W' base l s :=
 h.same fun b hm => hb.block b (h.ge b hm).2
theorem Lst.own.onlyG {E : Enc} {W W' : World} {base : Nat} {l : Loc} {s : List (St Loc)} {g : Nat} (h : Lst.own E W base l s) (ho : Only [g] W W') (hg : g ∉ Lst.fp l s) : Lst.own E W' base l s :=
 h.same fun b hm => ho.block b (h.ge b hm).2 (fun e => hg (by simp at e; rw [← e]; exact hm))
theorem Lst.own.grownG {E : Enc} {W W' : World} {base : Nat} {l : Loc} {s : List (St Loc)} {row : Option Nat} (h : Lst.own E W base l s) (ho : W.grownBy W' row) (hg : ∀ b, row = some b → b ∉ Lst.fp l s) : Lst.own E W' base l s :=
 h.same fun b hm => ho.block b (h.ge b hm).2 (fun e => hg b e.symm hm)
theorem LstB.nil (E : Enc) (W : World) (base : Nat) : LstB E W base ⟨none, 0⟩ [] := ⟨⟨World.ownsRow_nil _ _ _ _, trivial⟩, by intro b hb; cases hb⟩
theorem append_lstB {E : Enc} {W1 W2 : World} {base k : Nat} {A : Option Addr} {c : Nat} {ls : List (St Loc)} {L : St Loc} {v : Value} (hk : ls.length = k) (ho : LstB E W1 base ⟨A, c⟩ ls) (hL : L.own E W1 base) (hdj : ∀ b ∈ (Loc.mk A c).fp, b ∉ L.fp)
  (hrow : W2.ownsRow base E.tS 6 v (k + 1) (cellsS E ls ++ cellsS E [L])) (hg : W1.grownBy W2 (Value.slice A k c).ownBlock) (hb : v.ownBlock = (Value.slice A k c).ownBlock ∨ v.ownBlock = some W1.heap.size) :
  ∃ A' c', v = .slice A' (k + 1) c' ∧ LstB E W2 base ⟨A', c'⟩ (ls ++ [L]) := by
 obtain ⟨A', c', rfl⟩ := own_form hrow
 have hof : ∀ b, b ∈ (Loc.mk A c).fp ↔ (Value.slice A k c).ownBlock = some b := fun b => own_fp ⟨A, c⟩ k b
 have hof' : ∀ b, b ∈ (Loc.mk A' c').fp ↔ (Value.slice A' (k + 1) c').ownBlock = some b := fun b => own_fp ⟨A', c'⟩ _ b
 have hne1 : ∀ b ∈ fpS ls, some b ≠ (Value.slice A k c).ownBlock := fun b hb' e => ho.2 b ((hof b).2 e.symm) hb'
 have hne2 : ∀ b ∈ L.fp, some b ≠ (Value.slice A k c).ownBlock := fun b hb' e => hdj b ((hof b).2 e.symm) hb'
 refine ⟨A', c', rfl, ⟨?_, ?_⟩, fun b hm hf => ?_⟩
 ·show W2.ownsRow base E.tS 6 (.slice A' (ls ++ [L]).length c') (ls ++ [L]).length (cellsS E (ls ++ [L]))
  rw [List.length_append, hk]
  refine own_cast hrow rfl ?_
  simp [cellsS]
 ·refine ownS_iff.2 fun x hx => ?_
  rcases List.mem_append.1 hx with hx | hx
  ·have hox := ownS_iff.1 ho.1.2 x hx
   exact hox.same fun b hm => hg.block b (hox.ge b hm).2 (hne1 b (fpS_iff.2 ⟨x, hx, hm⟩))
  ·rw [List.mem_singleton] at hx
   subst hx
   exact hL.same fun b hm => hg.block b (hL.ge b hm).2 (hne2 b hm)
 ·rw [fpS_append] at hf
  have h1 := (hof' b).1 hm
  have e1 : fpS [L] = L.fp := by simp [fpS]
  rw [e1] at hf
  rcases hb with hb | hb
  ·rw [hb] at h1
   rcases List.mem_append.1 hf with hf | hf
   ·exact hne1 b hf h1.symm
   ·exact hne2 b hf h1.symm
  ·rw [hb] at h1
   cases h1
   rcases List.mem_append.1 hf with hf | hf
   ·obtain ⟨x, hx, hm'⟩ := fpS_iff.1 hf
    have := ((ownS_iff.1 ho.1.2 x hx).ge _ hm').2
    omega
   ·have := (hL.ge _ hf).2
    omega
theorem infoRS : (Tryz.prog.info? 131).map (fun i => (i.zero, i.size, i.bytes)) = some (some (.agg #[.int .i64 0, .string ⟨#[]⟩, .slice none 0 0, .int .i64 0, .slice none 0 0, .slice none 0 0]), 6, 104) := by kernel_rfl
structure Beg (W : World) (lo g : Nat) (xk : Int) (xn : ByteArray) (xb : Int) (pt pe : List (St Unit)) (A : Option Addr) (j c : Nat) (TA : Option Addr) (tc : Nat) (ts : List (St Loc)) (EA : Option Addr) (ec : Nat) (es : List (St Loc)) : Prop where
 bg : Blk W g 131 #[.int .i64 xk, .string xn, .slice A j c, .int .i64 xb, .slice TA ts.length tc, .slice EA es.length ec]
 lt : lo ≤ g
 t : Lst.own eR W lo ⟨TA, tc⟩ ts
 e : Lst.own eR W lo ⟨EA, ec⟩ es
 gt : g ∉ Lst.fp ⟨TA, tc⟩ ts
 ge : g ∉ Lst.fp ⟨EA, ec⟩ es
 tp : plainS ts = pt
 ep : plainS es = pe
theorem Beg.new {W W' : World} {lo g : Nat} {xk : Int} {xn : ByteArray} {xb : Int} {pt pe : List (St Unit)} {A : Option Addr} {j c : Nat} {TA : Option Addr} {tc : Nat} {ts : List (St Loc)} {EA : Option Addr} {ec : Nat} {es : List (St Loc)}
  (h : Beg W lo g xk xn xb pt pe A j c TA tc ts EA ec es) (hb : Below W.heap.size W W') : Beg W' lo g xk xn xb pt pe A j c TA tc ts EA ec es :=
 ⟨h.bg.below hb h.bg.lt, h.lt, h.t.new hb, h.e.new hb, h.gt, h.ge, h.tp, h.ep⟩
theorem Beg.grow {W V : World} {lo top g : Nat} {xk : Int} {xn : ByteArray} {xb : Int} {pt pe : List (St Unit)} {A A' : Option Addr} {j j' c c' : Nat} {TA : Option Addr} {tc : Nat} {ts : List (St Loc)} {EA : Option Addr} {ec : Nat} {es : List (St Loc)} {row : Option Nat}
  (h : Beg W lo g xk xn xb pt pe A j c TA tc ts EA ec es) (hg : W.grownBy V row) (hr : ∀ b, row = some b → top ≤ b) (ht : ∀ b ∈ Lst.fp ⟨TA, tc⟩ ts, b < top) (he : ∀ b ∈ Lst.fp ⟨EA, ec⟩ es, b < top) (hgt : g < top) :
  Beg V lo g xk xn xb pt pe A j c TA tc ts EA ec es ∧ Beg (V.setCell ⟨g, 2, none⟩ (.slice A' j' c')) lo g xk xn xb pt pe A' j' c' TA tc ts EA ec es := by
 have h1 : Beg V lo g xk xn xb pt pe A j c TA tc ts EA ec es := ⟨h.bg.grown hg (fun e => by have := hr g e.symm; omega), h.lt, h.t.grownG hg (fun b hb hm => by have h2 := hr b hb; have h3 := ht b hm; omega), h.e.grownG hg (fun b hb hm => by have h2 := hr b hb; have h3 := he b hm; omega), h.gt, h.ge, h.tp, h.ep⟩
 have ho : Only [g] V (V.setCell ⟨g, 2, none⟩ (.slice A' j' c')) := (Only.refl [g] V).setCell (.inl (by simp)) _
 exact ⟨h1, ⟨h1.bg.set_ 2 _, h1.lt, h1.t.onlyG ho h1.gt, h1.e.onlyG ho h1.ge, h1.gt, h1.ge, h1.tp, h1.ep⟩⟩
set_option maxRecDepth 100000 in
theorem theirS : ∀ (ls : List (St Loc)) (lc : Loc) (w : World), Lst.ok eT w lc ls → allL Hd.rng SHd.rng ls → szS ls ≤ 60000 →
  Calls Tryz.prog 63 #[.slice lc.A ls.length lc.c] w fun r w' => (∃ (A : Option Addr) (c : Nat) (os : List (St Loc)), r = .returned (.slice A os.length c) ∧ plainS os = plainS ls ∧ Lst.own eR w' w.heap.size ⟨A, c⟩ os) ∧ Below w.heap.size w w' := by
 intro ls
 induction ls using St.list with
 | h ls ih =>
 intro lc w hok hrng hsz
 obtain ⟨n, hn⟩ : ∃ n, n = ls.length := ⟨_, rfl⟩
 have hln := szS_len ls
 have n63 : (n : Int) ≤ 60000 := by omega
 rw [← hn]
 obtain ⟨i0, hi, hz0, hz1, hz2⟩ := info_parts infoRS
 obtain ⟨i1, hi', hz0', hz1', hz2'⟩ := info_parts infoRE
 have hall := allL_iff.1 hrng
 obtain ⟨lA, lc⟩ := lc
 replace hi := Lib.hid hi
 replace hz0 := Lib.hid hz0
 replace hz1 := Lib.hid hz1
 replace hz2 := Lib.hid hz2
 replace hi' := Lib.hid hi'
 replace hz0' := Lib.hid hz0'
 replace hz1' := Lib.hid hz1'
 replace hz2' := Lib.hid hz2'
 replace hn := Lib.hid hn
 replace hok := Lib.hid hok
 replace ih := Lib.hid ih
 replace hsz := Lib.hid hsz
 replace hall := Lib.hid hall
 clear hln hrng
 go_enter Tryz.func63, Tryz.ntmps63
 go_wp2_with fail
 go_loopw [3, 11] (fun v3 v11 wr => ∃ (k : Nat) (A : Option Addr) (c : Nat) (os : List (St Loc)), v11 = .int .i64 k ∧ k ≤ n ∧ v3 = .slice A k c ∧ os.length = k ∧ plainS os = plainS (ls.take k) ∧ LstB eR wr w.heap.size ⟨A, c⟩ os ∧ Below w.heap.size w wr) (fun _ v11 _ => n - (intOf v11).toNat)
 case atStart => exact ⟨0, none, 0, [], rfl, Nat.zero_le _, rfl, rfl, rfl, LstB.nil _ _ _, Below.refl _ _⟩
 case round =>
  obtain ⟨k, A, c, os, rfl, hk, rfl, hlk, hpk, hX, hB⟩ := hrel
  have k0 : 0 ≤ (k : Int) := by omega
  by_cases hlt : k < n
  ·have hx : ls[k]? = some (ls[k]'(by have := hn.out; omega)) := List.getElem?_eq_getElem (by have := hn.out; omega)
   generalize ls[k]'(by have := hn.out; omega) = x at hx
   have hmem := List.mem_of_getElem? hx
   obtain ⟨ad, hA, _, _, hxok, hcx⟩ := (hok.out.all (keeps_below hB)).at hx
   have hi1 := (ih.out x hmem).1
   have hi2 := (ih.out x hmem).2
   have hxr := hall.out x hmem
   have hxsz := szS_mem hmem
   have hszo := hsz.out
   have hnext : plainS (ls.take (k + 1)) = plainS (ls.take k) ++ [x.plain] := by
    obtain ⟨q1, q2⟩ := List.getElem?_eq_some_iff.1 hx
    rw [List.take_succ_eq_append_getElem q1, q2, plainS_map, plainS_map, List.map_append]
    rfl
   obtain ⟨⟨xk, xn, xb⟩, ⟨xA, xc⟩, ⟨x1, x2⟩, ⟨x3, x4⟩, xx, xt, xe⟩ := x
   obtain ⟨⟨kr0, kr1⟩, hr2, hr3, hr4⟩ := hxr
   simp only [St.th, St.el] at hi1 hi2
   simp only [St.sz] at hxsz
   dsimp only at kr0 kr1
   obtain ⟨c0, cc1, cc2, cc3, cc4, cc5⟩ := CellsAt.c6 hcx
   simp only [eT] at c0 cc1 cc2 cc3 cc4 cc5
   obtain ⟨p1, p2, p3⟩ := hxok.parts
   have hc1 := fun w2 (h2 : Below wr.heap.size wr w2) => hi1 ⟨x1, x2⟩ w2 (p2.all (keeps_below h2)) hr3 (by omega)
   have hc2 := fun w2 (h2 : Below wr.heap.size wr w2) => hi2 ⟨x3, x4⟩ w2 (p3.all (keeps_below h2)) hr4 (by omega)
   dsimp only at hc1 hc2 hA
   have hcx2 := allX_iff.1 hr2
   have hxxs : szs xx ≤ 60000 := by omega
   have hmln := szs_len xx
   obtain ⟨m, hmx⟩ : ∃ m, m = xx.length := ⟨_, rfl⟩
   rw [← hmx] at cc2
   have m63 : (m : Int) ≤ 60000 := by omega
   subst hA
   have k1 : (k : Int) < (n : Int) := by omega
   have hab := cell_lt c0
   have hBx := (Below.refl _ wr).alloc (Nat.le_refl _) (.cells #[.int .u8 xk, .string xn, .slice xA m xc, .int .i64 xb, .slice x1 xt.length x2, .slice x3 xe.length x4] 40)
   have hby := Blk.new wr 40 #[.int .u8 xk, .string xn, .slice xA m xc, .int .i64 xb, .slice x1 xt.length x2, .slice x3 xe.length x4]
   have hwk := wrap_small kr0 (by omega)
   obtain ⟨gy, hgy⟩ : ∃ g, wr.heap.size = g := ⟨_, rfl⟩
   rw [hgy] at hby
   have hX9 : ∀ b ∈ (Loc.mk A c).fp, w.heap.size ≤ b ∧ b < wr.heap.size := fun b hb => hX.1.ge b (List.mem_append_left _ hb)
   replace hX9 := Lib.hid hX9
   replace hby := Lib.hid hby
   replace hgy := Lib.hid hgy
   replace hnext := Lib.hid hnext
   replace hx := Lib.hid hx
   replace hc1 := Lib.hid hc1
   replace hc2 := Lib.hid hc2
   replace hBx := Lib.hid hBx
   replace hX := Lib.hid hX
   replace hpk := Lib.hid hpk
   replace hlk := Lib.hid hlk
   replace p1 := Lib.hid p1
   replace hcx2 := Lib.hid hcx2
   replace hxxs := Lib.hid hxxs
   replace hmx := Lib.hid hmx
   clear hxok hcx hi1 hi2 hr2 hr3 hr4 p2 p3 hszo hxsz hmln
   go_upto_region 5 with (fail)
   generalize wr.alloc (.cells #[.int .u8 xk, .string xn, .slice xA m xc, .int .i64 xb, .slice x1 xt.length x2, .slice x3 xe.length x4] 40) = Wx at *
   rw [hgy.out]
   clear c0 cc1 cc2 cc3 cc4 cc5 hab
   go_cut [6] (fun v6 wx => ∃ (g6 : Nat) (TA : Option Addr) (tc : Nat) (ts : List (St Loc)) (EA : Option Addr) (ec : Nat) (es : List (St Loc)), v6 = .pointer (some ⟨g6, 0, none⟩) ∧ Beg wx Wx.heap.size g6 xk xn xb (plainS xt) (plainS xe) none 0 0 TA tc ts EA ec es ∧ Below Wx.heap.size Wx wx)
   case first =>
    have hBd := Lib.hid ((Below.refl Wx.heap.size Wx).drew)
    have hbyd := Lib.hid (hby.out.below hBd.out hby.out.lt)
    have hby0 := hby.out
    have hgyl := Lib.hid hby.out.lt
    have hlo : Wx.heap.size ≤ Wx.drew.heap.size := hBd.out.size
    have hBxo := hBx.out
    obtain ⟨S, hSi, hSe⟩ : ∃ S : World → Prop, (∀ W, (W.cell? ⟨gy, 0, none⟩ = some (.int .u8 xk) ∧ W.cell? ⟨gy, 1, none⟩ = some (.string xn) ∧ W.cell? ⟨gy, 2, none⟩ = some (.slice xA m xc) ∧ W.cell? ⟨gy, 3, none⟩ = some (.int .i64 xb) ∧ W.cell? ⟨gy, 4, none⟩ = some (.slice x1 xt.length x2) ∧ W.cell? ⟨gy, 5, none⟩ = some (.slice x3 xe.length x4)) → S W) ∧ (∀ W, S W → (W.cell? ⟨gy, 0, none⟩ = some (.int .u8 xk) ∧ W.cell? ⟨gy, 1, none⟩ = some (.string xn) ∧ W.cell? ⟨gy, 2, none⟩ = some (.slice xA m xc) ∧ W.cell? ⟨gy, 3, none⟩ = some (.int .i64 xb) ∧ W.cell? ⟨gy, 4, none⟩ = some (.slice x1 xt.length x2) ∧ W.cell? ⟨gy, 5, none⟩ = some (.slice x3 xe.length x4))) := ⟨fun W => W.cell? ⟨gy, 0, none⟩ = some (.int .u8 xk) ∧ W.cell? ⟨gy, 1, none⟩ = some (.string xn) ∧ W.cell? ⟨gy, 2, none⟩ = some (.slice xA m xc) ∧ W.cell? ⟨gy, 3, none⟩ = some (.int .i64 xb) ∧ W.cell? ⟨gy, 4, none⟩ = some (.slice x1 xt.length x2) ∧ W.cell? ⟨gy, 5, none⟩ = some (.slice x3 xe.length x4), fun _ h => h, fun _ h => h⟩
    have hS : S Wx.drew := hSi _ ⟨hby0.cell 0, hby0.cell 1, hby0.cell 2, hby0.cell 3, hby0.cell 4, hby0.cell 5⟩
    replace hSi := Lib.hid hSi
    replace hSe := Lib.hid hSe
    refine wp_region_held (S := S) (by kernel_rfl) ?_
    change wpAnyH _ _ _ _ _ _ _ _ (World.drew _)
    clear hby0
    refine takeH 0 (v := ?_) rfl (by kernel_rfl) (by kernel_rfl) (by kernel_rfl) (fun _ _ _ h => h) (by rfl) hS ?_ ?_
    rotate_left
    ·(intro wz hSw; obtain ⟨z0, z1, z2, z3, z4, z5⟩ := hSe.out _ hSw; go_simp; try with_reducible rfl)
    try simp only [Act.put, List.setIfInBounds_toArray, List.set_cons_zero, List.set_cons_succ]
    refine takeH 3 (v := ?_) rfl (by kernel_rfl) (by kernel_rfl) (by kernel_rfl) (fun _ _ _ h => h) (by rfl) hS ?_ ?_
    rotate_left
    ·(intro wz hSw; obtain ⟨z0, z1, z2, z3, z4, z5⟩ := hSe.out _ hSw; go_simp; try with_reducible rfl)
    try simp only [Act.put, List.setIfInBounds_toArray, List.set_cons_zero, List.set_cons_succ]
    refine takeH 5 (v := ?_) rfl (by kernel_rfl) (by kernel_rfl) (by kernel_rfl) (fun _ _ _ h => h) (by rfl) hS ?_ ?_
    rotate_left
    ·(intro wz hSw; obtain ⟨z0, z1, z2, z3, z4, z5⟩ := hSe.out _ hSw; go_simp; try with_reducible rfl)
    try simp only [Act.put, List.setIfInBounds_toArray, List.set_cons_zero, List.set_cons_succ]
    refine takeH 7 (v := ?_) rfl (by kernel_rfl) (by kernel_rfl) (by kernel_rfl) (fun _ _ _ h => h) (by rfl) hS ?_ ?_
    rotate_left
    ·(intro wz hSw; obtain ⟨z0, z1, z2, z3, z4, z5⟩ := hSe.out _ hSw; go_simp; try with_reducible rfl)
    try simp only [Act.put, List.setIfInBounds_toArray, List.set_cons_zero, List.set_cons_succ]
    refine takeH 10 (v := ?_) rfl (by kernel_rfl) (by kernel_rfl) (by kernel_rfl) (fun _ _ _ h => h) (by rfl) hS ?_ ?_
    rotate_left
    ·(intro wz hSw; obtain ⟨z0, z1, z2, z3, z4, z5⟩ := hSe.out _ hSw; go_simp; try with_reducible rfl)
    try simp only [Act.put, List.setIfInBounds_toArray, List.set_cons_zero, List.set_cons_succ]
    refine takeH 1 (v := .int .u8 xk) rfl (by kernel_rfl) (by kernel_rfl) (by kernel_rfl) (fun _ _ _ h => h) (by rfl) hS ?_ ?_
    ·(intro wz hSw; obtain ⟨z0, z1, z2, z3, z4, z5⟩ := hSe.out _ hSw; go_simp)
    try simp only [Act.put, List.setIfInBounds_toArray, List.set_cons_zero, List.set_cons_succ]
    refine takeH 2 (v := .int .i64 xk) rfl (by kernel_rfl) (by kernel_rfl) (by kernel_rfl) (fun _ _ _ h => h) (by rfl) hS ?_ ?_
    ·(intro wz hSw; obtain ⟨z0, z1, z2, z3, z4, z5⟩ := hSe.out _ hSw; go_simp)
    try simp only [Act.put, List.setIfInBounds_toArray, List.set_cons_zero, List.set_cons_succ]
    refine takeH 4 (v := .string xn) rfl (by kernel_rfl) (by kernel_rfl) (by kernel_rfl) (fun _ _ _ h => h) (by rfl) hS ?_ ?_
    ·(intro wz hSw; obtain ⟨z0, z1, z2, z3, z4, z5⟩ := hSe.out _ hSw; go_simp)
    try simp only [Act.put, List.setIfInBounds_toArray, List.set_cons_zero, List.set_cons_succ]
    refine takeH 6 (v := .int .i64 xb) rfl (by kernel_rfl) (by kernel_rfl) (by kernel_rfl) (fun _ _ _ h => h) (by rfl) hS ?_ ?_
    ·(intro wz hSw; obtain ⟨z0, z1, z2, z3, z4, z5⟩ := hSe.out _ hSw; go_simp)
    try simp only [Act.put, List.setIfInBounds_toArray, List.set_cons_zero, List.set_cons_succ]
    refine takeH 8 (v := .slice x1 xt.length x2) rfl (by kernel_rfl) (by kernel_rfl) (by kernel_rfl) (fun _ _ _ h => h) (by rfl) hS ?_ ?_
    ·(intro wz hSw; obtain ⟨z0, z1, z2, z3, z4, z5⟩ := hSe.out _ hSw; go_simp)
    try simp only [Act.put, List.setIfInBounds_toArray, List.set_cons_zero, List.set_cons_succ]
    refine takeH 11 (v := .slice x3 xe.length x4) rfl (by kernel_rfl) (by kernel_rfl) (by kernel_rfl) (fun _ _ _ h => h) (by rfl) hS ?_ ?_
    ·(intro wz hSw; obtain ⟨z0, z1, z2, z3, z4, z5⟩ := hSe.out _ hSw; go_simp)
    try simp only [Act.put, List.setIfInBounds_toArray, List.set_cons_zero, List.set_cons_succ]
    refine callH2 9 14 rfl rfl (by kernel_rfl) (fun K hK => ?_) (fun K hK => ?_)
    ·go_simp
     have hcc := Lib.hid (hc1.out _ (below_and hBxo hBd.out))
     go_wp2_with (go_at_call 63; refine hcc.out.mono ?_; rintro e U1 ⟨⟨TA, tc, ts, rfl, hpT, hoX⟩, hB2⟩)
     clear hcc
     have hbN1 := Lib.hid (hbyd.out.below hB2 hbyd.out.lt)
     have hBN1 := Lib.hid (below_and hBd.out hB2)
     have hloW : Wx.heap.size ≤ (Wx.drew).heap.size := hBd.out.size
     have hT0N1 := Lib.hid (hoX.base_le hloW)
     replace hpT := Lib.hid hpT
     clear hB2 hoX hloW
     refine hK.out _ _ (hSi.out _ ⟨hbN1.out.cell 0, hbN1.out.cell 1, hbN1.out.cell 2, hbN1.out.cell 3, hbN1.out.cell 4, hbN1.out.cell 5⟩) (fun hSn => ?_)
     clear hK K hS
     have hS := hSn
     clear hSn
     refine callH2 12 14 rfl rfl (by kernel_rfl) (fun K hK => ?_) (fun K hK => ?_)
     ·go_simp
      have hcc := Lib.hid (hc2.out _ (below_and hBxo hBN1.out))
      go_wp2_with (go_at_call 63; refine hcc.out.mono ?_; rintro e U2 ⟨⟨EA, ec, es, rfl, hpE, hoX⟩, hB2⟩)
      clear hcc
      have hbN2 := Lib.hid (hbN1.out.below hB2 hbN1.out.lt)
      have hBN2 := Lib.hid (below_and hBN1.out hB2)
      have hTN2 := Lib.hid (hT0N1.out.new hB2)
      have hloW : Wx.heap.size ≤ (U1).heap.size := hBN1.out.size
      have hE0N2 := Lib.hid (hoX.base_le hloW)
      replace hpE := Lib.hid hpE
      clear hB2 hoX hloW
      refine hK.out _ _ (hSi.out _ ⟨hbN2.out.cell 0, hbN2.out.cell 1, hbN2.out.cell 2, hbN2.out.cell 3, hbN2.out.cell 4, hbN2.out.cell 5⟩) (fun hSn => ?_)
      clear hK K hS
      have hS := hSn
      clear hSn
      refine takeH 13 (v := ?_) rfl (by kernel_rfl) (by kernel_rfl) (by kernel_rfl) (fun _ _ _ h => h) (by rfl) hS ?_ ?_
      rotate_left
      ·(intro wz hSw; obtain ⟨z0, z1, z2, z3, z4, z5⟩ := hSe.out _ hSw; go_simp; try with_reducible rfl)
      try simp only [Act.put, List.setIfInBounds_toArray, List.set_cons_zero, List.set_cons_succ]
      refine callH 14 rfl (by kernel_rfl) (fun K hK => ?_)
      go_simp
      have hBz := (Below.refl _ (U2)).alloc (Nat.le_refl _) (.cells #[.int .i64 0, .string ⟨#[]⟩, .slice none 0 0, .int .i64 0, .slice none 0 0, .slice none 0 0] 131)
      have hG0 := Blk.new (U2) 131 #[.int .i64 0, .string ⟨#[]⟩, .slice none 0 0, .int .i64 0, .slice none 0 0, .slice none 0 0]
      obtain ⟨g6, hg6⟩ : ∃ g, (U2).heap.size = g := ⟨_, rfl⟩
      rw [hg6] at hG0
      try rw [hg6]
      have hloW : Wx.heap.size ≤ g6 := by have := hBN2.out.size; omega
      have hgT : g6 ∉ Lst.fp ⟨TA, tc⟩ ts := fun hm => by have h1 := (hTN2.out.ge g6 hm).2; omega
      have hgE : g6 ∉ Lst.fp ⟨EA, ec⟩ es := fun hm => by have h1 := (hE0N2.out.ge g6 hm).2; omega
      have hbN3 := Lib.hid (hbN2.out.below hBz hbN2.out.lt)
      have hBN3 := Lib.hid (below_and hBN2.out hBz)
      have hTN3 := Lib.hid (hTN2.out.new hBz)
      have hEN3 := Lib.hid (hE0N2.out.new hBz)
      replace hG0 := Lib.hid hG0
      generalize (U2).alloc (.cells #[.int .i64 0, .string ⟨#[]⟩, .slice none 0 0, .int .i64 0, .slice none 0 0, .slice none 0 0] 131) = U3 at *
      clear hBz hg6
      refine hK.out _ _ (hSi.out _ ⟨hbN3.out.cell 0, hbN3.out.cell 1, hbN3.out.cell 2, hbN3.out.cell 3, hbN3.out.cell 4, hbN3.out.cell 5⟩) (fun hSn => ?_)
      clear hK K hS
      have hS := hSn
      clear hSn
      refine callH 15 rfl (by kernel_rfl) (fun K hK => ?_)
      rw [if_pos (by rfl)]
      have hth := there_blk_at hG0.out (o := 0) (n := 6) (by decide)
      have hNb : Blk (World.setCells (U3) g6 0 ([.int .i64 xk, .string xn, .slice none 0 0, .int .i64 xb, .slice TA ts.length tc, .slice EA es.length ec] : List Value)) g6 131 #[.int .i64 xk, .string xn, .slice none 0 0, .int .i64 xb, .slice TA ts.length tc, .slice EA es.length ec] := blk_put6 hG0.out (vs := #[.int .i64 xk, .string xn, .slice none 0 0, .int .i64 xb, .slice TA ts.length tc, .slice EA es.length ec]) rfl
      have hoS : Only [g6] (U3) (World.setCells (U3) g6 0 ([.int .i64 xk, .string xn, .slice none 0 0, .int .i64 xb, .slice TA ts.length tc, .slice EA es.length ec] : List Value)) := only_setCells (b := g6) ([.int .i64 xk, .string xn, .slice none 0 0, .int .i64 xb, .slice TA ts.length tc, .slice EA es.length ec] : List Value) 0 (U3)
      have hbF := hbN3.out.only hoS (fun hm => Nat.not_lt.2 hloW (by rw [← List.mem_singleton.1 hm]; exact hgyl.out))
      have hBF : Below Wx.heap.size Wx (World.setCells (U3) g6 0 ([.int .i64 xk, .string xn, .slice none 0 0, .int .i64 xb, .slice TA ts.length tc, .slice EA es.length ec] : List Value)) := hBN3.out.trans (hoS.below (by have := hBN3.out.size; omega) (by simp; omega))
      have hTF := hTN3.out.onlyG hoS hgT
      have hEF := hEN3.out.onlyG hoS hgE
      have hfin : Beg _ Wx.heap.size g6 xk xn xb (plainS xt) (plainS xe) none 0 0 TA tc ts EA ec es := ⟨hNb, hloW, hTF, hEF, hgT, hgE, hpT.out, hpE.out⟩
      replace hfin := Lib.hid hfin
      replace hBF := Lib.hid hBF
      refine wp_store_mid 131 (.tmp 6) (.tmp 28) rfl g6 0 #[.int .i64 xk, .string xn, .slice none 0 0, .int .i64 xb, .slice TA ts.length tc, .slice EA es.length ec] rfl rfl hth (by kernel_rfl) (by simp [Value.oneCell']) ?_
      clear hNb hoS hTF hEF hth
      refine hK.out _ _ (hSi.out _ ⟨hbF.cell 0, hbF.cell 1, hbF.cell 2, hbF.cell 3, hbF.cell 4, hbF.cell 5⟩) (fun hSn => ?_)
      clear hK K hS
      have hS := hSn
      clear hSn
      refine wpAnyH_done (by kernel_rfl) ?_ _
      clear hS hSi hSe
      go_wp2_with fail
      go_meet
      exact ⟨g6, TA, tc, ts, EA, ec, es, rfl, hfin.out, hBF.out⟩
     ·go_simp
      have hBz := (Below.refl _ (U1)).alloc (Nat.le_refl _) (.cells #[.int .i64 0, .string ⟨#[]⟩, .slice none 0 0, .int .i64 0, .slice none 0 0, .slice none 0 0] 131)
      have hG0 := Blk.new (U1) 131 #[.int .i64 0, .string ⟨#[]⟩, .slice none 0 0, .int .i64 0, .slice none 0 0, .slice none 0 0]
      obtain ⟨g6, hg6⟩ : ∃ g, (U1).heap.size = g := ⟨_, rfl⟩
      rw [hg6] at hG0
      try rw [hg6]
      have hloW : Wx.heap.size ≤ g6 := by have := hBN1.out.size; omega
      have hgT : g6 ∉ Lst.fp ⟨TA, tc⟩ ts := fun hm => by have h1 := (hT0N1.out.ge g6 hm).2; omega
      have hbN5 := Lib.hid (hbN1.out.below hBz hbN1.out.lt)
      have hBN5 := Lib.hid (below_and hBN1.out hBz)
      have hTN5 := Lib.hid (hT0N1.out.new hBz)
      replace hG0 := Lib.hid hG0
      generalize (U1).alloc (.cells #[.int .i64 0, .string ⟨#[]⟩, .slice none 0 0, .int .i64 0, .slice none 0 0, .slice none 0 0] 131) = U5 at *
      clear hBz hg6
      refine hK.out _ _ (hSi.out _ ⟨hbN5.out.cell 0, hbN5.out.cell 1, hbN5.out.cell 2, hbN5.out.cell 3, hbN5.out.cell 4, hbN5.out.cell 5⟩) (fun hSn => ?_)
      clear hK K hS
      have hS := hSn
      clear hSn
      refine callH 12 rfl (by kernel_rfl) (fun K hK => ?_)
      go_simp
      have hcc := Lib.hid (hc2.out _ (below_and hBxo hBN5.out))
      go_wp2_with (go_at_call 63; refine hcc.out.mono ?_; rintro e U6 ⟨⟨EA, ec, es, rfl, hpE, hoX⟩, hB2⟩)
      clear hcc
      have hbN6 := Lib.hid (hbN5.out.below hB2 hbN5.out.lt)
      have hBN6 := Lib.hid (below_and hBN5.out hB2)
      have hTN6 := Lib.hid (hTN5.out.new hB2)
      have hGN6 := Lib.hid (hG0.out.below hB2 hG0.out.lt)
      have hloW : Wx.heap.size ≤ (U5).heap.size := hBN5.out.size
      have hgE : g6 ∉ Lst.fp ⟨EA, ec⟩ es := fun hm => by have h1 := (hoX.ge g6 hm).1; have h2 := hG0.out.lt; omega
      have hE0N6 := Lib.hid (hoX.base_le hloW)
      replace hpE := Lib.hid hpE
      clear hB2 hoX hloW
      refine hK.out _ _ (hSi.out _ ⟨hbN6.out.cell 0, hbN6.out.cell 1, hbN6.out.cell 2, hbN6.out.cell 3, hbN6.out.cell 4, hbN6.out.cell 5⟩) (fun hSn => ?_)
      clear hK K hS
      have hS := hSn
      clear hSn
      refine takeH 13 (v := ?_) rfl (by kernel_rfl) (by kernel_rfl) (by kernel_rfl) (fun _ _ _ h => h) (by rfl) hS ?_ ?_
      rotate_left
      ·(intro wz hSw; obtain ⟨z0, z1, z2, z3, z4, z5⟩ := hSe.out _ hSw; go_simp; try with_reducible rfl)
      try simp only [Act.put, List.setIfInBounds_toArray, List.set_cons_zero, List.set_cons_succ]
      refine callH 15 rfl (by kernel_rfl) (fun K hK => ?_)
      rw [if_pos (by rfl)]
      have hth := there_blk_at hGN6.out (o := 0) (n := 6) (by decide)
      have hNb : Blk (World.setCells (U6) g6 0 ([.int .i64 xk, .string xn, .slice none 0 0, .int .i64 xb, .slice TA ts.length tc, .slice EA es.length ec] : List Value)) g6 131 #[.int .i64 xk, .string xn, .slice none 0 0, .int .i64 xb, .slice TA ts.length tc, .slice EA es.length ec] := blk_put6 hGN6.out (vs := #[.int .i64 xk, .string xn, .slice none 0 0, .int .i64 xb, .slice TA ts.length tc, .slice EA es.length ec]) rfl
      have hoS : Only [g6] (U6) (World.setCells (U6) g6 0 ([.int .i64 xk, .string xn, .slice none 0 0, .int .i64 xb, .slice TA ts.length tc, .slice EA es.length ec] : List Value)) := only_setCells (b := g6) ([.int .i64 xk, .string xn, .slice none 0 0, .int .i64 xb, .slice TA ts.length tc, .slice EA es.length ec] : List Value) 0 (U6)
      have hbF := hbN6.out.only hoS (fun hm => Nat.not_lt.2 hloW (by rw [← List.mem_singleton.1 hm]; exact hgyl.out))
      have hBF : Below Wx.heap.size Wx (World.setCells (U6) g6 0 ([.int .i64 xk, .string xn, .slice none 0 0, .int .i64 xb, .slice TA ts.length tc, .slice EA es.length ec] : List Value)) := hBN6.out.trans (hoS.below (by have := hBN6.out.size; omega) (by simp; omega))
      have hTF := hTN6.out.onlyG hoS hgT
      have hEF := hE0N6.out.onlyG hoS hgE
      have hfin : Beg _ Wx.heap.size g6 xk xn xb (plainS xt) (plainS xe) none 0 0 TA tc ts EA ec es := ⟨hNb, hloW, hTF, hEF, hgT, hgE, hpT.out, hpE.out⟩
      replace hfin := Lib.hid hfin
      replace hBF := Lib.hid hBF
      refine wp_store_mid 131 (.tmp 6) (.tmp 28) rfl g6 0 #[.int .i64 xk, .string xn, .slice none 0 0, .int .i64 xb, .slice TA ts.length tc, .slice EA es.length ec] rfl rfl hth (by kernel_rfl) (by simp [Value.oneCell']) ?_
      clear hNb hoS hTF hEF hth
      refine hK.out _ _ (hSi.out _ ⟨hbF.cell 0, hbF.cell 1, hbF.cell 2, hbF.cell 3, hbF.cell 4, hbF.cell 5⟩) (fun hSn => ?_)
      clear hK K hS
      have hS := hSn
      clear hSn
      refine wpAnyH_done (by kernel_rfl) ?_ _
      clear hS hSi hSe
      go_wp2_with fail
      go_meet
      exact ⟨g6, TA, tc, ts, EA, ec, es, rfl, hfin.out, hBF.out⟩
    ·go_simp
     rw [show (Wx.alloc (.cells #[.int .i64 0, .string ⟨#[]⟩, .slice none 0 0, .int .i64 0, .slice none 0 0, .slice none 0 0] 131)).drew = Wx.drew.alloc (.cells #[.int .i64 0, .string ⟨#[]⟩, .slice none 0 0, .int .i64 0, .slice none 0 0, .slice none 0 0] 131) from rfl]
     have hBz := (Below.refl _ (Wx.drew)).alloc (Nat.le_refl _) (.cells #[.int .i64 0, .string ⟨#[]⟩, .slice none 0 0, .int .i64 0, .slice none 0 0, .slice none 0 0] 131)
     have hG0 := Blk.new (Wx.drew) 131 #[.int .i64 0, .string ⟨#[]⟩, .slice none 0 0, .int .i64 0, .slice none 0 0, .slice none 0 0]
     obtain ⟨g6, hg6⟩ : ∃ g, (Wx.drew).heap.size = g := ⟨_, rfl⟩
     rw [hg6] at hG0
     try rw [hg6]
     rw [show Wx.heap.size = g6 from hg6]
     have hloW : Wx.heap.size ≤ g6 := by have := hBd.out.size; omega
     have hbN8 := Lib.hid (hbyd.out.below hBz hbyd.out.lt)
     have hBN8 := Lib.hid (below_and hBd.out hBz)
     replace hG0 := Lib.hid hG0
     generalize (Wx.drew).alloc (.cells #[.int .i64 0, .string ⟨#[]⟩, .slice none 0 0, .int .i64 0, .slice none 0 0, .slice none 0 0] 131) = U8 at *
     clear hBz hg6
     refine hK.out _ _ (hSi.out _ ⟨hbN8.out.cell 0, hbN8.out.cell 1, hbN8.out.cell 2, hbN8.out.cell 3, hbN8.out.cell 4, hbN8.out.cell 5⟩) (fun hSn => ?_)
     clear hK K hS
     have hS := hSn
     clear hSn
     refine callH 9 rfl (by kernel_rfl) (fun K hK => ?_)
     go_simp
     have hcc := Lib.hid (hc1.out _ (below_and hBxo hBN8.out))
     go_wp2_with (go_at_call 63; refine hcc.out.mono ?_; rintro e U9 ⟨⟨TA, tc, ts, rfl, hpT, hoX⟩, hB2⟩)
     clear hcc
     have hbN9 := Lib.hid (hbN8.out.below hB2 hbN8.out.lt)
     have hBN9 := Lib.hid (below_and hBN8.out hB2)
     have hGN9 := Lib.hid (hG0.out.below hB2 hG0.out.lt)
     have hloW : Wx.heap.size ≤ (U8).heap.size := hBN8.out.size
     have hgT : g6 ∉ Lst.fp ⟨TA, tc⟩ ts := fun hm => by have h1 := (hoX.ge g6 hm).1; have h2 := hG0.out.lt; omega
     have hT0N9 := Lib.hid (hoX.base_le hloW)
     replace hpT := Lib.hid hpT
     clear hB2 hoX hloW
     refine hK.out _ _ (hSi.out _ ⟨hbN9.out.cell 0, hbN9.out.cell 1, hbN9.out.cell 2, hbN9.out.cell 3, hbN9.out.cell 4, hbN9.out.cell 5⟩) (fun hSn => ?_)
     clear hK K hS
     have hS := hSn
     clear hSn
     refine callH 12 rfl (by kernel_rfl) (fun K hK => ?_)
     go_simp
     have hcc := Lib.hid (hc2.out _ (below_and hBxo hBN9.out))
     go_wp2_with (go_at_call 63; refine hcc.out.mono ?_; rintro e U10 ⟨⟨EA, ec, es, rfl, hpE, hoX⟩, hB2⟩)
     clear hcc
     have hbN10 := Lib.hid (hbN9.out.below hB2 hbN9.out.lt)
     have hBN10 := Lib.hid (below_and hBN9.out hB2)
     have hTN10 := Lib.hid (hT0N9.out.new hB2)
     have hGN10 := Lib.hid (hGN9.out.below hB2 hGN9.out.lt)
     have hloW : Wx.heap.size ≤ (U9).heap.size := hBN9.out.size
     have hgE : g6 ∉ Lst.fp ⟨EA, ec⟩ es := fun hm => by have h1 := (hoX.ge g6 hm).1; have h2 := hGN9.out.lt; omega
     have hE0N10 := Lib.hid (hoX.base_le hloW)
     replace hpE := Lib.hid hpE
     clear hB2 hoX hloW
     refine hK.out _ _ (hSi.out _ ⟨hbN10.out.cell 0, hbN10.out.cell 1, hbN10.out.cell 2, hbN10.out.cell 3, hbN10.out.cell 4, hbN10.out.cell 5⟩) (fun hSn => ?_)
     clear hK K hS
     have hS := hSn
     clear hSn
     refine takeH 13 (v := ?_) rfl (by kernel_rfl) (by kernel_rfl) (by kernel_rfl) (fun _ _ _ h => h) (by rfl) hS ?_ ?_
     rotate_left
     ·(intro wz hSw; obtain ⟨z0, z1, z2, z3, z4, z5⟩ := hSe.out _ hSw; go_simp; try with_reducible rfl)
     try simp only [Act.put, List.setIfInBounds_toArray, List.set_cons_zero, List.set_cons_succ]
     refine callH 15 rfl (by kernel_rfl) (fun K hK => ?_)
     rw [if_pos (by rfl)]
     have hth := there_blk_at hGN10.out (o := 0) (n := 6) (by decide)
     have hNb : Blk (World.setCells (U10) g6 0 ([.int .i64 xk, .string xn, .slice none 0 0, .int .i64 xb, .slice TA ts.length tc, .slice EA es.length ec] : List Value)) g6 131 #[.int .i64 xk, .string xn, .slice none 0 0, .int .i64 xb, .slice TA ts.length tc, .slice EA es.length ec] := blk_put6 hGN10.out (vs := #[.int .i64 xk, .string xn, .slice none 0 0, .int .i64 xb, .slice TA ts.length tc, .slice EA es.length ec]) rfl
     have hoS : Only [g6] (U10) (World.setCells (U10) g6 0 ([.int .i64 xk, .string xn, .slice none 0 0, .int .i64 xb, .slice TA ts.length tc, .slice EA es.length ec] : List Value)) := only_setCells (b := g6) ([.int .i64 xk, .string xn, .slice none 0 0, .int .i64 xb, .slice TA ts.length tc, .slice EA es.length ec] : List Value) 0 (U10)
     have hbF := hbN10.out.only hoS (fun hm => Nat.not_lt.2 hloW (by rw [← List.mem_singleton.1 hm]; exact hgyl.out))
     have hBF : Below Wx.heap.size Wx (World.setCells (U10) g6 0 ([.int .i64 xk, .string xn, .slice none 0 0, .int .i64 xb, .slice TA ts.length tc, .slice EA es.length ec] : List Value)) := hBN10.out.trans (hoS.below (by have := hBN10.out.size; omega) (by simp; omega))
     have hTF := hTN10.out.onlyG hoS hgT
     have hEF := hE0N10.out.onlyG hoS hgE
     have hfin : Beg _ Wx.heap.size g6 xk xn xb (plainS xt) (plainS xe) none 0 0 TA tc ts EA ec es := ⟨hNb, hloW, hTF, hEF, hgT, hgE, hpT.out, hpE.out⟩
     replace hfin := Lib.hid hfin
     replace hBF := Lib.hid hBF
     refine wp_store_mid 131 (.tmp 6) (.tmp 28) rfl g6 0 #[.int .i64 xk, .string xn, .slice none 0 0, .int .i64 xb, .slice TA ts.length tc, .slice EA es.length ec] rfl rfl hth (by kernel_rfl) (by simp [Value.oneCell']) ?_
     clear hNb hoS hTF hEF hth
     refine hK.out _ _ (hSi.out _ ⟨hbF.cell 0, hbF.cell 1, hbF.cell 2, hbF.cell 3, hbF.cell 4, hbF.cell 5⟩) (fun hSn => ?_)
     clear hK K hS
     have hS := hSn
     clear hSn
     refine wpAnyH_done (by kernel_rfl) ?_ _
     clear hS hSi hSe
     go_wp2_with fail
     go_meet
     exact ⟨g6, TA, tc, ts, EA, ec, es, rfl, hfin.out, hBF.out⟩
   case rest =>
    obtain ⟨g6, TA, tc, ts, EA, ec, es, rfl, hbeg, hB5⟩ := hcut
    rename World => W5
    have hlw := hB5.size
    have hg6l := hbeg.bg.lt
    have htl : ∀ b ∈ Lst.fp ⟨TA, tc⟩ ts, b < W5.heap.size := fun b hb => (hbeg.t.ge b hb).2
    have hel : ∀ b ∈ Lst.fp ⟨EA, ec⟩ es, b < W5.heap.size := fun b hb => (hbeg.e.ge b hb).2
    have hwW : wr.heap.size ≤ Wx.heap.size := hBx.out.size
    have hB5w := Lib.hid (below_and hBx.out hB5)
    have hby5 := hby.out.below hB5 hby.out.lt
    have v2 := hby5.cell 2
    simp only [List.getElem?_toArray, List.getElem?_cons_zero, List.getElem?_cons_succ] at v2
    have hyl := hby5.lt
    replace htl := Lib.hid htl
    replace hel := Lib.hid hel
    replace hbeg := Lib.hid hbeg
    replace hB5 := Lib.hid hB5
    clear hc1 hc2 hby hby5 hwk
    obtain ⟨Wo, hWo⟩ : ∃ x, x = wr := ⟨_, rfl⟩
    subst hWo
    go_wp2_with fail
    clear v2 hyl
    go_loopw [32] (fun v32 wr => ∃ (j : Nat) (A' : Option Addr) (c' : Nat) (xs : List (Ex Loc)), v32 = .int .i64 j ∧ j ≤ m ∧ xs.length = j ∧ plains xs = plains (xx.take j) ∧ Beg wr Wx.heap.size g6 xk xn xb (plainS xt) (plainS xe) A' j c' TA tc ts EA ec es ∧ LexB eR wr W5.heap.size ⟨A', c'⟩ xs ∧ Below Wx.heap.size Wx wr ∧ W5.heap.size ≤ wr.heap.size) (fun v32 _ => m - (intOf v32).toNat)
    case atStart => exact ⟨0, none, 0, [], rfl, Nat.zero_le _, rfl, rfl, hbeg.out, LexB.nil _ _ _, hB5.out, Nat.le_refl _⟩
    case round =>
     obtain ⟨j, A', c', xs, rfl, hj, hlj, hpj, hbeg, hXx, hB6, hW6⟩ := hrel
     have j0 : 0 ≤ (j : Int) := by omega
     by_cases hjl : j < m
     ·have hy : xx[j]? = some (xx[j]'(by have := hmx.out; omega)) := List.getElem?_eq_getElem (by have := hmx.out; omega)
      generalize xx[j]'(by have := hmx.out; omega) = y at hy
      have hymem := List.mem_of_getElem? hy
      have hBa := below_and hBx.out hB6
      obtain ⟨ad2, hA2, _, _, hyok, hcy⟩ := (Lex.ok.all (keeps_below hBa) p1.out).at hy
      have hcall := fun w2 (h2 : Below wr.heap.size wr w2) => theirX y w2 (hyok.below h2) (hcx2.out y hymem) (by have := szs_mem hymem; have := hxxs.out; omega)
      have hnexty : plains (xx.take (j + 1)) = plains (xx.take j) ++ [y.plain] := by
       obtain ⟨q1, q2⟩ := List.getElem?_eq_some_iff.1 hy
       rw [List.take_succ_eq_append_getElem q1, q2, plains_map, plains_map, List.map_append]
       rfl
      obtain ⟨⟨yk, yo, yv, yw, yn⟩, ⟨yA, yc⟩, ys⟩ := y
      obtain ⟨d0, d1, d2, d3, d4, d5⟩ := CellsAt.c6 hcy
      dsimp only at hA2
      simp only [aggX, Ex.cells, eT] at d0 d1 d2 hcall
      subst hA2
      have j1 : (j : Int) < (m : Int) := by omega
      have hab := cell_lt d0
      have hBz := (Below.refl _ wr).alloc (Nat.le_refl _) (.cells #[.int .u8 yk, .int .u8 yo, .int .u32 yv, .int .i64 yw, .string yn, .slice yA ys.length yc] 30)
      have hbz := Blk.new wr 30 #[.int .u8 yk, .int .u8 yo, .int .u32 yv, .int .i64 yw, .string yn, .slice yA ys.length yc]
      obtain ⟨gz, hgz⟩ : ∃ g, wr.heap.size = g := ⟨_, rfl⟩
      rw [hgz] at hbz
      have hX8 : ∀ b ∈ (Loc.mk A' c').fp, W5.heap.size ≤ b ∧ b < wr.heap.size := fun b hb => hXx.1.ge b (List.mem_append_left _ hb)
      replace hX8 := Lib.hid hX8
      replace hbz := Lib.hid hbz
      replace hgz := Lib.hid hgz
      replace hnexty := Lib.hid hnexty
      replace hy := Lib.hid hy
      replace hcall := Lib.hid hcall
      replace hBz := Lib.hid hBz
      replace hbeg := Lib.hid hbeg
      replace hXx := Lib.hid hXx
      replace hpj := Lib.hid hpj
      replace hlj := Lib.hid hlj
      clear hyok hcy
      go_upto_region 9 with (fail)
      generalize wr.alloc (.cells #[.int .u8 yk, .int .u8 yo, .int .u32 yv, .int .i64 yw, .string yn, .slice yA ys.length yc] 30) = Wy at *
      rw [hgz.out]
      clear d0 d1 d2 d3 d4 d5 hab
      have hBd := below_and hBz.out ((Below.refl _ Wy).drew)
      have hc := Lib.hid (hcall.out _ hBd)
      have hbx := hbeg.out.new hBz.out
      have hbd := Lib.hid (hbeg.out.new hBd)
      have hbzd := Lib.hid (hbz.out.below ((Below.refl _ Wy).drew) hbz.out.lt)
      have hXd := Lib.hid (hXx.out.new hBd)
      have hBe := Lib.hid (below_and hB6 hBd)
      have hrs1 : wr.heap.size ≤ Wy.drew.heap.size := hBd.size
      clear hcall hbeg hXx hBd hB6
      obtain ⟨S, hSi, hSe⟩ : ∃ S : World → Prop, (∀ W, (W.cell? ⟨g6, 2, none⟩ = some (.slice A' j c') ∧ W.cell? ⟨gz, 0, none⟩ = some (.int .u8 yk) ∧ W.cell? ⟨gz, 1, none⟩ = some (.int .u8 yo) ∧ W.cell? ⟨gz, 2, none⟩ = some (.int .u32 yv) ∧ W.cell? ⟨gz, 3, none⟩ = some (.int .i64 yw) ∧ W.cell? ⟨gz, 4, none⟩ = some (.string yn) ∧ W.cell? ⟨gz, 5, none⟩ = some (.slice yA ys.length yc)) → S W) ∧ (∀ W, S W → (W.cell? ⟨g6, 2, none⟩ = some (.slice A' j c') ∧ W.cell? ⟨gz, 0, none⟩ = some (.int .u8 yk) ∧ W.cell? ⟨gz, 1, none⟩ = some (.int .u8 yo) ∧ W.cell? ⟨gz, 2, none⟩ = some (.int .u32 yv) ∧ W.cell? ⟨gz, 3, none⟩ = some (.int .i64 yw) ∧ W.cell? ⟨gz, 4, none⟩ = some (.string yn) ∧ W.cell? ⟨gz, 5, none⟩ = some (.slice yA ys.length yc))) := ⟨fun W => W.cell? ⟨g6, 2, none⟩ = some (.slice A' j c') ∧ W.cell? ⟨gz, 0, none⟩ = some (.int .u8 yk) ∧ W.cell? ⟨gz, 1, none⟩ = some (.int .u8 yo) ∧ W.cell? ⟨gz, 2, none⟩ = some (.int .u32 yv) ∧ W.cell? ⟨gz, 3, none⟩ = some (.int .i64 yw) ∧ W.cell? ⟨gz, 4, none⟩ = some (.string yn) ∧ W.cell? ⟨gz, 5, none⟩ = some (.slice yA ys.length yc), fun _ h => h, fun _ h => h⟩
      have hS : S Wy.drew := hSi _ ⟨hbx.bg.cell 2, hbz.out.cell 0, hbz.out.cell 1, hbz.out.cell 2, hbz.out.cell 3, hbz.out.cell 4, hbz.out.cell 5⟩
      replace hSi := Lib.hid hSi
      replace hSe := Lib.hid hSe
      refine wp_region_T (S := S) (St := [7]) (by kernel_rfl) ?_
      change wpAnyT _ _ _ _ _ _ _ _ _ (World.drew _)
      refine pureT 0 (v := ?_) rfl (by kernel_rfl) (by kernel_rfl) (by kernel_rfl) (by kernel_rfl) (fun _ _ _ h => h) (by rfl) (fun _ => hS) ?_ ?_
      rotate_left
      ·(intro wz; go_simp; try with_reducible rfl)
      try simp only [Act.put, List.setIfInBounds_toArray, List.set_cons_zero, List.set_cons_succ]
      refine takeT 1 (v := .slice A' j c') rfl (by kernel_rfl) (by kernel_rfl) (by kernel_rfl) (by kernel_rfl) (fun _ _ _ h => h) (by rfl) hS ?_ ?_
      ·(intro wz hSw; obtain ⟨z0, z1, z2, z3, z4, z5, z6⟩ := hSe.out _ hSw; go_simp)
      try simp only [Act.put, List.setIfInBounds_toArray, List.set_cons_zero, List.set_cons_succ]
      refine takeT 2 (v := .agg #[.int .u8 yk, .int .u8 yo, .int .u32 yv, .int .i64 yw, .string yn, .slice yA ys.length yc]) rfl (by kernel_rfl) (by kernel_rfl) (by kernel_rfl) (by kernel_rfl) (fun _ _ _ h => h) (by rfl) hS ?_ ?_
      ·(intro wz hSw; obtain ⟨z0, z1, z2, z3, z4, z5, z6⟩ := hSe.out _ hSw; go_simp)
      try simp only [Act.put, List.setIfInBounds_toArray, List.set_cons_zero, List.set_cons_succ]
      refine callT 3 rfl (by kernel_rfl) (fun K hK => ?_)
      go_simp
      go_wp2_with (go_at_call 62; refine hc.out.mono ?_; rintro e V1 ⟨⟨zk, zo, zv, zw, zn, zA, zc, zs, rfl, hzp, hzo⟩, hB2⟩)
      have hbe2 := hbd.out.new hB2
      have hbze := hbzd.out.below hB2 hbzd.out.lt
      have hXe := hXd.out.new hB2
      have hBf := below_and hBe.out hB2
      have hs1 := hB2.size
      refine hK.out _ _ (hSi.out _ ⟨hbe2.bg.cell 2, hbze.cell 0, hbze.cell 1, hbze.cell 2, hbze.cell 3, hbze.cell 4, hbze.cell 5⟩) (fun hSn => ?_)
      clear hK K hS
      have hS := hSn
      clear hSn
      refine callT 4 rfl (by kernel_rfl) (fun K hK => ?_)
      go_simp
      have hBq := (Below.refl _ V1).alloc (Nat.le_refl _) (.cells #[.int .i64 zk, .int .i64 zo, .int .i64 zv, .int .i64 zw, .string zn, .slice zA zs.length zc] 70)
      have hbe3 := hbe2.new hBq
      have hbzf := hbze.below hBq hbze.lt
      have hXf := hXe.new hBq
      have hBg := below_and hBf hBq
      have hzf := hzo.keep (only_of_below [] hBq) (by simp)
      have hrd := Reads.of_own (World.ownsRow_lit (base := V1.heap.size) (e := 70) (size := 6) V1 #[.int .i64 zk, .int .i64 zo, .int .i64 zv, .int .i64 zw, .string zn, .slice zA zs.length zc] 1 (Nat.le_refl _) (by simp [maxLen]) rfl)
      have hs2 := hBq.size
      refine hK.out _ _ (hSi.out _ ⟨hbe3.bg.cell 2, hbzf.cell 0, hbzf.cell 1, hbzf.cell 2, hbzf.cell 3, hbzf.cell 4, hbzf.cell 5⟩) (fun hSn => ?_)
      clear hK K hS
      have hS := hSn
      clear hSn
      refine callT 5 rfl (by kernel_rfl) (fun K hK => ?_)
      generalize (V1.alloc (.cells #[.int .i64 zk, .int .i64 zo, .int .i64 zv, .int .i64 zw, .string zn, .slice zA zs.length zc] 70)) = V2 at *
      refine step_append_any (w := V2) (by rfl) (.tmp 37) (.tmp 40) 68 (by rfl) W5.heap.size 70 i1 _ 6 72 Tryz.underlying68 hi'.out hz0'.out hz1'.out hz2'.out rfl (by omega) (.slice A' j c') j (cellsL eR xs) (by rfl) (by have h1 := hXf.1.1; dsimp only at h1; rw [hlj.out] at h1; exact h1) _ (some ⟨V1.heap.size, 0, none⟩) 1 1 (cellsL eR [(Ex.mk ⟨zk, zo, zv, zw, zn⟩ (⟨zA, zc⟩ : Loc) zs)]) (by rfl) (by have h2 := hrd; simpa [cellsL, Ex.cells, eR] using h2) (cellsL_one _ _) (by simp only [maxLen]; omega) (by omega) (by omega) ?_
      intro v8 V3 hown8 hg8 hb8
      obtain ⟨A2, cc2, rfl, hX2⟩ := append_lexB (L := (Ex.mk ⟨zk, zo, zv, zw, zn⟩ (⟨zA, zc⟩ : Loc) zs)) hlj.out hXf (hzf.base_le (by omega)) (fun b hb hm => by have h1 := (hX8.out b hb).2; have h2 := (hzo.ge b hm).1; omega) hown8 hg8 hb8
      have hne : ∀ b, (Value.slice A' j c').ownBlock = some b → W5.heap.size ≤ b := fun b hb => (hXf.1.ge b (List.mem_append_left _ ((own_fp ⟨A', c'⟩ j b).2 hb))).1
      obtain ⟨hbg3, hst3⟩ := hbe3.grow (A' := A2) (j' := j + 1) (c' := cc2) hg8 hne htl.out hel.out hg6l
      have hbzg := hbzf.grown hg8 (fun e => by have h1 := (own_fp ⟨A', c'⟩ j gz).2 e.symm; have h2 := hX8.out gz h1; have h3 := hgz.out; omega)
      have hBh := hBg.grown hg8 (by have := hBg.size; omega) (fun q hq => by have := hne q hq; omega)
      have g3c := hbg3.bg.cell 2
      have f3c := hbg3.bg.frozen 2
      have l3c := hbg3.bg.lt
      have hsz3 : V2.heap.size ≤ V3.heap.size := hg8.size
      have ho3 : Only [g6] V3 (V3.setCell ⟨g6, 2, none⟩ (.slice A2 (j + 1) cc2)) := (Only.refl [g6] V3).setCell (.inl (by simp)) _
      have hstX := hX2.only ho3 hg6l
      have hg6w := hbg3.lt
      have hstB : Below Wx.heap.size Wx (V3.setCell ⟨g6, 2, none⟩ (.slice A2 (j + 1) cc2)) := hBh.trans (ho3.below (by have := hBh.size; omega) (by simp; omega))
      have hstS : W5.heap.size ≤ (V3.setCell ⟨g6, 2, none⟩ (.slice A2 (j + 1) cc2)).heap.size := by have := ho3.size; omega
      replace hstS := Lib.hid hstS
      replace hst3 := Lib.hid hst3
      replace hstX := Lib.hid hstX
      replace hstB := Lib.hid hstB
      replace hzp := Lib.hid hzp
      simp only [List.getElem?_toArray, List.getElem?_cons_zero, List.getElem?_cons_succ] at g3c
      clear hown8 hg8 hb8 hX2 hne hbe3 hbzf hXf hBg hzf hrd hBh ho3 hbe2 hbze hXe hBf hzo
      refine hK.out _ _ (hSi.out _ ⟨hbg3.bg.cell 2, hbzg.cell 0, hbzg.cell 1, hbzg.cell 2, hbzg.cell 3, hbzg.cell 4, hbzg.cell 5⟩) (fun hSn => ?_)
      clear hK K hS
      have hS := hSn
      clear hSn
      refine pureT 6 (v := ?_) rfl (by kernel_rfl) (by kernel_rfl) (by kernel_rfl) (by kernel_rfl) (fun _ _ _ h => h) (by rfl) (fun _ => hS) ?_ ?_
      rotate_left
      ·(intro wz; go_simp; try with_reducible rfl)
      try simp only [Act.put, List.setIfInBounds_toArray, List.set_cons_zero, List.set_cons_succ]
      refine storeT 7 rfl (by kernel_rfl) (by kernel_rfl) (fun K hK => ?_)
      clear hbg3 hbzg
      go_simp
      go_wp2_with fail
      refine hK.out _ _ ?_
      clear hK K
      refine wpAnyT_done (by kernel_rfl) ?_ _
      clear hS hSi hSe g3c f3c l3c
      go_wp2_with fail
      go_roundw
      case rel =>
       refine ⟨j + 1, A2, cc2, xs ++ [(Ex.mk ⟨zk, zo, zv, zw, zn⟩ (⟨zA, zc⟩ : Loc) zs)], by go_num, by omega, by rw [List.length_append, hlj.out]; rfl, ?_, hst3.out, hstX.out, hstB.out, hstS.out⟩
       rw [hnexty.out, plains_map, List.map_append, ← plains_map, hpj.out]
       show _ ++ [(Ex.mk ⟨zk, zo, zv, zw, zn⟩ (⟨zA, zc⟩ : Loc) zs).plain] = _
       rw [hzp.out]
      case measure => simp [intOf]; omega
     ·obtain rfl : j = m := by omega
      have hjm : xx.take j = xx := List.take_of_length_le (by have := hmx.out; omega)
      rw [hjm] at hpj
      clear hjm
      have z0 := hbeg.bg.cell 0
      have z1 := hbeg.bg.cell 1
      have z2 := hbeg.bg.cell 2
      have z3 := hbeg.bg.cell 3
      have z4 := hbeg.bg.cell 4
      have z5 := hbeg.bg.cell 5
      simp only [List.getElem?_toArray, List.getElem?_cons_zero, List.getElem?_cons_succ] at z0 z1 z2 z3 z4 z5
      have hgl := hbeg.bg.lt
      have hBz := (Below.refl _ wr).alloc (Nat.le_refl _) (.cells #[.int .i64 xk, .string xn, .slice A' j c', .int .i64 xb, .slice TA ts.length tc, .slice EA es.length ec] 131)
      have hrd := Reads.of_own (World.ownsRow_lit (base := wr.heap.size) (e := 131) (size := 6) wr #[.int .i64 xk, .string xn, .slice A' j c', .int .i64 xb, .slice TA ts.length tc, .slice EA es.length ec] 1 (Nat.le_refl _) (by simp [maxLen]) rfl)
      have hBy := below_and hBx.out (below_and hB6 hBz)
      have hXz := hX.out.new hBy
      have hbz := hbeg.new hBz
      have hXq := hXx.new hBz
      have hBw := below_and hB hBy
      have hws : w.heap.size ≤ Wo.heap.size := hB.size
      have hwx := hBx.out.size
      have hLo : (St.mk ⟨xk, xn, xb⟩ (⟨A', c'⟩ : Loc) ⟨TA, tc⟩ ⟨EA, ec⟩ xs ts es).own eR (wr.alloc (.cells #[.int .i64 xk, .string xn, .slice A' j c', .int .i64 xb, .slice TA ts.length tc, .slice EA es.length ec] 131)) w.heap.size := by
       refine ⟨?_, ?_, ?_⟩
       ·exact hXq.1.base_le (by omega)
       ·exact hbz.t.base_le (by omega)
       ·exact hbz.e.base_le (by omega)
      have hdj : ∀ b ∈ (Loc.mk A c).fp, b ∉ (St.mk ⟨xk, xn, xb⟩ (⟨A', c'⟩ : Loc) ⟨TA, tc⟩ ⟨EA, ec⟩ xs ts es).fp := fun b hb hm => by
       have h1 := (hX9.out b hb).2
       simp only [St.fp, List.mem_append] at hm
       rcases hm with hm | hm | hm
       ·have := (hXq.1.ge b (List.mem_append.2 hm)).1; omega
       ·have := (hbz.t.ge b (List.mem_append.2 hm)).1; omega
       ·have := (hbz.e.ge b (List.mem_append.2 hm)).1; omega
      have hszz := hBw.size
      have hLp : (St.mk ⟨xk, xn, xb⟩ (⟨A', c'⟩ : Loc) ⟨TA, tc⟩ ⟨EA, ec⟩ xs ts es).plain = (St.mk ⟨xk, xn, xb⟩ (⟨xA, xc⟩ : Loc) ⟨x1, x2⟩ ⟨x3, x4⟩ xx xt xe).plain := by
       simp only [St.plain, hpj, hbeg.tp, hbeg.ep]
      have hXr : (wr.alloc (.cells #[.int .i64 xk, .string xn, .slice A' j c', .int .i64 xb, .slice TA ts.length tc, .slice EA es.length ec] 131)).ownsRow w.heap.size 131 6 (.slice A k c) k (cellsS eR os) := by
       have h1 := hXz.1.1
       dsimp only at h1
       rw [hlk.out] at h1
       exact h1
      replace hXz := Lib.hid hXz
      replace hLo := Lib.hid hLo
      replace hdj := Lib.hid hdj
      replace hLp := Lib.hid hLp
      replace hBw := Lib.hid hBw
      clear hbz hXq hBy hbeg hXx hB6 hB5 hpj
      go_wp2_with (at_builtin; refine wpList_append_any _ rfl (.tmp 44) (.tmp 46) 73 rfl w.heap.size 131 i0 _ 6 104 Tryz.underlying73 hi.out hz0.out hz1.out hz2.out rfl (by omega) (.slice A k c) k (cellsS eR os) rfl hXr _ (some ⟨wr.heap.size, 0, none⟩) 1 1 (cellsS eR [(St.mk ⟨xk, xn, xb⟩ (⟨A', c'⟩ : Loc) ⟨TA, tc⟩ ⟨EA, ec⟩ xs ts es)]) rfl (by have h2 := hrd; simpa [cellsS, St.cells, eR, hlj] using h2) (cellsS_one _ _) (by simp only [maxLen]; omega) (by omega) hszz ?_; intro v8 V3 hown8 hg8 hb8)
      go_roundw
      case rel =>
       obtain ⟨A2, cc2, rfl, hX2⟩ := append_lstB (L := (St.mk ⟨xk, xn, xb⟩ (⟨A', c'⟩ : Loc) ⟨TA, tc⟩ ⟨EA, ec⟩ xs ts es)) hlk.out hXz.out hLo.out hdj.out hown8 hg8 hb8
       refine ⟨k + 1, A2, cc2, os ++ [(St.mk ⟨xk, xn, xb⟩ (⟨A', c'⟩ : Loc) ⟨TA, tc⟩ ⟨EA, ec⟩ xs ts es)], by go_num, by omega, rfl, by rw [List.length_append, hlk.out]; rfl, ?_, hX2, hBw.out.grown hg8 hszz (fun q hq => (hXr.lt q hq).1)⟩
       rw [hnext.out, plainS_map, List.map_append, ← plainS_map, hpk.out]
       show _ ++ [(St.mk ⟨xk, xn, xb⟩ (⟨A', c'⟩ : Loc) ⟨TA, tc⟩ ⟨EA, ec⟩ xs ts es).plain] = _
       rw [hLp.out]
      case measure => simp [intOf]; omega
  ·obtain rfl : n = k := by omega
   have hkn : ls.take n = ls := List.take_of_length_le (by have := hn.out; omega)
   rw [hkn] at hpk
   replace hX := Lib.hid hX
   replace hpk := Lib.hid hpk
   replace hlk := Lib.hid hlk
   clear hkn
   go_wp2_with fail
   go_ret
   exact ⟨⟨A, c, os, by rw [hlk.out]; rfl, hpk.out, hX.out.1⟩, hB⟩
end Go.Proofs.YtnldbplphgfpeaaGreat
namespace Go.Proofs.YtnldbplphgfpeaaGreat
open Go Go.RowKit Go.Shelf
set_option linter.unusedVariables false
set_option linter.unusedSimpArgs false
def fld (v : Value) (k : Nat) : Value := match v with | .agg cs => cs.getD k undef | v => v
section
variable {W W' : World} {lo hi : Nat}
def exR (E : Enc) (p : Ex Unit) (v : Value) (lo hi : Nat) (W : World) : Prop := ∃ e : Ex Loc, v = .agg (e.cells E).toArray ∧ e.plain = p ∧ e.own E W lo ∧ ∀ b ∈ e.fp, b < hi
def stR (E : Enc) (p : List (St Unit)) (v : Value) (lo hi : Nat) (W : World) : Prop := ∃ (A : Option Addr) (c : Nat) (os : List (St Loc)), v = .slice A os.length c ∧ plainS os = p ∧ Lst.own E W lo ⟨A, c⟩ os ∧ ∀ b ∈ Lst.fp ⟨A, c⟩ os, b < hi
def dcR (T : TypeId) (ds : List Dc) (n : Nat) (v : Value) (lo hi : Nat) (W : World) : Prop := ∃ (A : Option Addr) (c : Nat), v = .slice A n c ∧ W.ownsRow lo T 3 (.slice A n c) n (cellsD ds) ∧ ∀ b ∈ (Loc.mk A c).fp, b < hi
def nwR (T : TypeId) (cs : Array Value) (v : Value) (lo hi : Nat) (W : World) : Prop := ∃ g, v = .pointer (some ⟨g, 0, none⟩) ∧ Blk W g T cs ∧ lo ≤ g ∧ g < hi
def bEx (i k : Nat) (E : Enc) (p : Ex Unit) : BagOp := ⟨i, [], fun x lo hi W => exR E p (x k) lo hi W, fun _ _ _ _ _ _ hb ⟨e, h1, h2, h3, h4⟩ => ⟨e, h1, h2, (keep_ex E _ e).new h3 hb, h4⟩⟩
def bSt (i k : Nat) (E : Enc) (p : List (St Unit)) : BagOp := ⟨i, [], fun x lo hi W => stR E p (x k) lo hi W, fun _ _ _ _ _ _ hb ⟨A, c, os, h1, h2, h3, h4⟩ => ⟨A, c, os, h1, h2, h3.new hb, h4⟩⟩
def bDc (i k : Nat) (T : TypeId) (ds : List Dc) (n : Nat) : BagOp := ⟨i, [], fun x lo hi W => dcR T ds n (x k) lo hi W, fun _ _ _ _ _ _ hb ⟨A, c, h1, h2, h3⟩ => ⟨A, c, h1, (keep_row _ _ _ _ ⟨A, c⟩ _).new h2 hb, h3⟩⟩
def bNw (i k : Nat) (T : TypeId) (cs : Array Value) : BagOp := ⟨i, [], fun x lo hi W => nwR T cs (x k) lo hi W, fun _ _ _ _ _ _ hb ⟨g, h1, h2, h3, h4⟩ => ⟨g, h1, h2.below hb h2.lt, h3, h4⟩⟩
def bVal (i : Nat) (deps : List Nat) (F : (Nat → Value) → Prop) : BagOp := ⟨i, deps, fun x _ _ _ => F x, fun _ _ _ _ _ _ _ h => h⟩
theorem nwR_new (W : World) (T : TypeId) (cs : Array Value) : nwR T cs (.pointer (some ⟨W.heap.size, 0, none⟩)) W.heap.size (W.alloc (.cells cs T)).heap.size (W.alloc (.cells cs T)) := ⟨_, rfl, Blk.new W T cs, Nat.le_refl _, by simp⟩
theorem new_below (W : World) (o : Obj) : Below W.heap.size W (W.alloc o) := (Below.refl _ W).alloc (Nat.le_refl _) o
theorem BagEnd.apart {bag : List BagOp} {w : World} {x : Nat → Value} {lo hi : Nat → Nat} (h : BagEnd bag w x lo hi W) (p q : Nat) (hpq : (Nat.blt p bag.length && Nat.blt q bag.length && !(p == q)) = true) {b g : Nat} (hb : lo p ≤ b) (hb' : b < hi p) (hg : lo q ≤ g) (hg' : g < hi q) : g ≠ b := by
 simp only [Bool.and_eq_true, Nat.blt_eq, Bool.not_eq_true', beq_eq_false_iff_ne] at hpq
 have := h.d p q hpq.1.1 hpq.1.2 hpq.2
 omega
end
section
variable {P : Program} {md : Region.Mode} {L : List Oper} {Q : Exit → Act → World → Prop} {S : World → Prop} {listed : Array Bool} {fuel : Nat} {a : Act} {w : World}
theorem putH (i : Nat) {oi : Oper} (hi : L[i]? = some oi) (hr : Region.ready md L.toArray listed = [i]) {ty : TypeId} (x y : Operand) (ho : oi.op = .store ty x y) (hg : oi.guard = none) (g : Nat) (cs : Array Value) {cur : Array Value} {t : TypeId} (hb : Blk w g t cur) (hx : a.eval x = .pointer (some ⟨g, 0, none⟩)) (hy : a.eval y = .agg cs) (hs : cs.size = cur.size)
  (hz : (P.info? ty).map (·.size) = some cs.size) (h1 : cs.all (·.oneCell') = true) (h : ∀ W', Blk W' g t cs → Only [g] w W' → S W' ∧ wpAnyH P md L.toArray Q S fuel (listed.setIfInBounds i true) (a.put oi.dst undef) W') : wpAnyH P md L.toArray Q S (fuel + 1) listed a w := by
 refine callH i hi hr (fun K hK => ?_)
 rw [if_pos (by unfold Region.wanted; rw [hg])]
 obtain ⟨h2, h3⟩ := h _ (blk_put6 hb hs) (only_setCells (b := g) cs.toList 0 w)
 exact wp_store_mid ty x y ho g 0 cs hx hy (there_blk_at hb (by omega)) hz h1 (hK.out _ _ h2 fun _ => h3)
end
theorem range_blkA {W : World} {g t : Nat} {cs : Array Value} (h : Blk W g t cs) : W.rangeAt g 0 cs.toList := fun j v hv => by
 have h1 := h.cell j
 rw [Nat.zero_add, h1]
 simpa using hv
theorem load_rowA {P : Program} {S : World → Prop} {oi : Oper} {a : Act} (ty : TypeId) (x : Operand) (ho : oi.op = .load ty x) (b : Nat) (hx : a.eval x = .pointer (some ⟨b, 0, none⟩)) (cs : Array Value) (d : TypeDesc) {t : Nat} (hS : ∀ w, S w → Blk w b t cs)
  (hu : P.underlying ty = some d) (hd : d.isRow = true) (hi : (P.info? ty).map (·.size) = some cs.size) : ∀ w, S w → (execOp a.eval oi).run P w = .ok (.value (.agg cs)) w := fun w hw => by
 unfold execOp
 simp only [ho, hx, Instr.loadAt, Instr.sureAddr, Sem.run_bind, Sem.run_pure, Result.andThen_ok, run_loadVar_mid w b 0 ty cs.toList d (range_blkA (hS w hw)) hu hd (by rw [Array.length_toList]; exact hi)]
end Go.Proofs.YtnldbplphgfpeaaGreat
