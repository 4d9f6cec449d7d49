/- Lemmas for salvor/salvorlaw29.TreeSmall (part 8); no condition. -/
import Derived.Test.YtnldbplphgfpeaaGreatP07
namespace Go.Proofs.YtnldbplphgfpeaaGreat
open Go Go.RowKit Go.Shelf
set_option linter.unusedVariables false
set_option linter.unusedSimpArgs false
set_option maxHeartbeats 4000000
theorem there_blk {w : World} {g t : Nat} {cs : Array Value} (h : Blk w g t cs) {n : Nat} (hn : n ≤ cs.size) : w.there g 0 n := fun j hj => ⟨by rw [Nat.zero_add, h.cell j, Array.getElem?_eq_getElem (by omega)]; rfl, h.frozen _⟩
set_option maxRecDepth 100000 in
theorem rename_yes (e : Ex Loc) (from_ to_ : ByteArray) (w : World) (hok : e.ok eT w) (hs : e.sz ≤ 20000) :
  Calls Tryz.prog 13 #[aggX e, .string from_, .string to_] w fun r w' => ∃ L : Ex Loc, r = .returned (aggX L) ∧ L.plain = e.ren (chg from_ to_) ∧ L.own eT w' w.heap.size ∧ L.fp.Nodup ∧ Below w.heap.size w w' := by
 have hc := fun w2 (hB2 : Below w.heap.size w w2) => countE0 e w2 (hok.below hB2)
 have hl := lightE e hs
 have hcall : ∀ w2 (Bf Bt : Nat), Below w.heap.size w w2 → Blk w2 Bf 9 #[.string from_] → Blk w2 Bt 9 #[.string to_] → Calls Tryz.prog 82 #[aggX e, .func (.func 110) #[] #[.pointer (some ⟨Bf, 0, none⟩), .pointer (some ⟨Bt, 0, none⟩)]] w2 fun r w' =>
   ∃ zk zo zv zw zn zA zc zs, r = .returned (.agg #[.int .u8 zk, .int .u8 zo, .int .u32 zv, .int .i64 zw, .string zn, .slice zA (zs : List (Ex Loc)).length zc]) ∧ (Ex.mk ⟨zk, zo, zv, zw, zn⟩ (⟨zA, zc⟩ : Loc) zs).plain = e.ren (chg from_ to_) ∧ (Ex.mk ⟨zk, zo, zv, zw, zn⟩ ⟨zA, zc⟩ zs).own eT w' w2.heap.size ∧ (Ex.mk ⟨zk, zo, zv, zw, zn⟩ ⟨zA, zc⟩ zs).fp.Nodup ∧ Below w2.heap.size w2 w' := fun w2 Bf Bt h2 hf ht =>
  (named_chg Bf Bt from_ to_ e w2 (hok.below h2) hs hf ht).mono fun r w' ⟨L, h1, h2, h3, h4, h5⟩ => by
   obtain ⟨⟨zk, zo, zv, zw, zn⟩, ⟨zA, zc⟩, zs⟩ := L
   exact ⟨zk, zo, zv, zw, zn, zA, zc, zs, h1, h2, h3, h4, h5⟩
 obtain ⟨P, hP⟩ : ∃ P, P = e.ren (chg from_ to_) := ⟨_, rfl⟩
 rw [← hP] at hcall ⊢
 obtain ⟨⟨xk, xo, xv, xw, xn⟩, ⟨xA, xc⟩, xs⟩ := e
 obtain ⟨c, hcc⟩ : ∃ c, c = capE 0 (Ex.mk ⟨xk, xo, xv, xw, xn⟩ ⟨xA, xc⟩ xs).sz := ⟨_, rfl⟩
 rw [← hcc] at hc hl
 replace hcc := Lib.hid hcc
 replace hP := Lib.hid hP
 replace hs := Lib.hid hs
 simp only [aggX, Ex.cells, eT] at hc hcall
 simp only [show aggX (Ex.mk ⟨xk, xo, xv, xw, xn⟩ ⟨xA, xc⟩ xs) = .agg #[.int .u8 xk, .int .u8 xo, .int .u32 xv, .int .i64 xw, .string xn, .slice xA xs.length xc] from rfl]
 replace hc := Lib.hid hc
 replace hl := Lib.hid hl
 replace hcall := Lib.hid hcall
 have hB0 : Below w.heap.size w ((w.alloc (.cells #[.int .u8 xk, .int .u8 xo, .int .u32 xv, .int .i64 xw, .string xn, .slice xA xs.length xc] 30)).alloc (.cells #[.int .u8 0, .int .u8 0, .int .u32 0, .int .i64 0, .string ⟨#[]⟩, .slice none 0 0] 30)) := ((Below.refl _ _).alloc (Nat.le_refl _) _).alloc (by simp) _
 have hb0 := (Blk.new w 30 #[.int .u8 xk, .int .u8 xo, .int .u32 xv, .int .i64 xw, .string xn, .slice xA xs.length xc]).alloc (.cells #[.int .u8 0, .int .u8 0, .int .u32 0, .int .i64 0, .string ⟨#[]⟩, .slice none 0 0] 30)
 have hr0 := Blk.new (w.alloc (.cells #[.int .u8 xk, .int .u8 xo, .int .u32 xv, .int .i64 xw, .string xn, .slice xA xs.length xc] 30)) 30 #[.int .u8 0, .int .u8 0, .int .u32 0, .int .i64 0, .string ⟨#[]⟩, .slice none 0 0]
 rw [World.size_alloc] at hr0
 go_enter Tryz.func13, Tryz.ntmps13
 go_wp2_with fail
 have hbl := hb0.lt
 have hrl := hr0.lt
 generalize (w.alloc (.cells #[.int .u8 xk, .int .u8 xo, .int .u32 xv, .int .i64 xw, .string xn, .slice xA xs.length xc] 30)).alloc (.cells #[.int .u8 0, .int .u8 0, .int .u32 0, .int .i64 0, .string ⟨#[]⟩, .slice none 0 0] 30) = W0 at *
 refine (hc.out _ hB0).mono ?_
 rintro e w1 ⟨rfl, hB1⟩
 have hB01 := below_and hB0 hB1
 have hb1 := hb0.below hB1 hbl
 have hr1 := hr0.below hB1 hrl
 go_wp2_with (go_at_call 78; with_reducible refine (hl.out _).mono ?_; rintro e w' ⟨rfl, rfl⟩)
 have hbl1 := hb1.lt
 have hrl1 := hr1.lt
 obtain ⟨S, hSi, hSe⟩ : ∃ S : World → Prop, (∀ W, (W.cell? ⟨w.heap.size, 0, none⟩ = some (.int .u8 xk) ∧ W.cell? ⟨w.heap.size, 1, none⟩ = some (.int .u8 xo) ∧ W.cell? ⟨w.heap.size, 2, none⟩ = some (.int .u32 xv) ∧ W.cell? ⟨w.heap.size, 3, none⟩ = some (.int .i64 xw) ∧ W.cell? ⟨w.heap.size, 4, none⟩ = some (.string xn) ∧ W.cell? ⟨w.heap.size, 5, none⟩ = some (.slice xA xs.length xc)) → S W) ∧ (∀ W, S W → (W.cell? ⟨w.heap.size, 0, none⟩ = some (.int .u8 xk) ∧ W.cell? ⟨w.heap.size, 1, none⟩ = some (.int .u8 xo) ∧ W.cell? ⟨w.heap.size, 2, none⟩ = some (.int .u32 xv) ∧ W.cell? ⟨w.heap.size, 3, none⟩ = some (.int .i64 xw) ∧ W.cell? ⟨w.heap.size, 4, none⟩ = some (.string xn) ∧ W.cell? ⟨w.heap.size, 5, none⟩ = some (.slice xA xs.length xc))) := ⟨fun W => W.cell? ⟨w.heap.size, 0, none⟩ = some (.int .u8 xk) ∧ W.cell? ⟨w.heap.size, 1, none⟩ = some (.int .u8 xo) ∧ W.cell? ⟨w.heap.size, 2, none⟩ = some (.int .u32 xv) ∧ W.cell? ⟨w.heap.size, 3, none⟩ = some (.int .i64 xw) ∧ W.cell? ⟨w.heap.size, 4, none⟩ = some (.string xn) ∧ W.cell? ⟨w.heap.size, 5, none⟩ = some (.slice xA xs.length xc), fun _ h => h, fun _ h => h⟩
 have hS : S w1.drew := hSi _ ⟨hb1.cell 0, hb1.cell 1, hb1.cell 2, hb1.cell 3, hb1.cell 4, hb1.cell 5⟩
 replace hSi := Lib.hid hSi
 replace hSe := Lib.hid hSe
 refine wp_region_held (S := S) (by kernel_rfl) ?_
 change wpAnyH _ _ _ _ _ _ _ _ (World.drew _)
 refine takeH 0 (v := .agg #[.int .u8 xk, .int .u8 xo, .int .u32 xv, .int .i64 xw, .string xn, .slice xA xs.length xc]) rfl (by kernel_rfl) (by kernel_rfl) (by kernel_rfl) (fun _ _ _ h => h) (by rfl) hS ?_ ?_
 ·(intro wz hSw; obtain ⟨z0, z1, z2, z3, z4, z5⟩ := hSe.out _ hSw; go_simp)
 try simp only [Act.put, List.setIfInBounds_toArray, List.set_cons_zero, List.set_cons_succ]
 refine takeH 1 (v := ?_) rfl (by kernel_rfl) (by kernel_rfl) (by kernel_rfl) (fun _ _ _ h => h) (by rfl) hS ?_ ?_
 rotate_left
 ·(intro wz hSw; obtain ⟨z0, z1, z2, z3, z4, z5⟩ := hSe.out _ hSw; go_simp; try with_reducible rfl)
 try simp only [Act.put, List.setIfInBounds_toArray, List.set_cons_zero, List.set_cons_succ]
 refine takeH 2 (v := ?_) rfl (by kernel_rfl) (by kernel_rfl) (by kernel_rfl) (fun _ _ _ h => h) (by rfl) hS ?_ ?_
 rotate_left
 ·(intro wz hSw; obtain ⟨z0, z1, z2, z3, z4, z5⟩ := hSe.out _ hSw; go_simp; try with_reducible rfl)
 try simp only [Act.put, List.setIfInBounds_toArray, List.set_cons_zero, List.set_cons_succ]
 refine callH 3 rfl (by kernel_rfl) (fun K hK => ?_)
 go_simp
 go_wp2_with (go_at_call 84; refine (change_ok _ _ _).mono ?_; rintro e w2 ⟨rfl, rfl⟩)
 have hB2 : Below w1.heap.size w1 ((w1.alloc (.cells #[.string from_] 9)).alloc (.cells #[.string to_] 9)) := ((Below.refl _ w1).alloc (Nat.le_refl _) _).alloc (by simp) _
 have hf2 := (Blk.new w1 9 #[.string from_]).alloc (.cells #[.string to_] 9)
 have ht2 := Blk.new (w1.alloc (.cells #[.string from_] 9)) 9 #[.string to_]
 rw [World.size_alloc] at ht2
 have hb2 := hb1.below hB2 hbl1
 have hr2 := hr1.below hB2 hrl1
 generalize (w1.alloc (.cells #[.string from_] 9)).alloc (.cells #[.string to_] 9) = w2 at *
 have hB02 := below_and hB01 hB2
 refine hK.out _ _ (hSi.out _ ⟨hb2.cell 0, hb2.cell 1, hb2.cell 2, hb2.cell 3, hb2.cell 4, hb2.cell 5⟩) (fun hSn => ?_)
 clear hK K hS
 have hS := hSn
 clear hSn
 refine callH 4 rfl (by kernel_rfl) (fun K hK => ?_)
 go_simp
 go_wp2_with (go_at_call 82; refine (hcall.out w2.drew _ _ hB02.drew hf2.drew ht2.drew).mono ?_; rintro e w3 ⟨zk, zo, zv, zw, zn, zA, zc, zs, rfl, hLp, hLo, hLn, hB3'⟩)
 have hB3 := below_undrew hB3'
 have hb3 := hb2.below hB3 hb2.lt
 have hr3 := hr2.below hB3 hr2.lt
 refine hK.out _ _ (hSi.out _ ⟨hb3.cell 0, hb3.cell 1, hb3.cell 2, hb3.cell 3, hb3.cell 4, hb3.cell 5⟩) (fun hSn => ?_)
 clear hK K hS
 have hS := hSn
 clear hSn
 have hof : Only [w.heap.size + 1] w3 ((((((w3.setCell ⟨w.heap.size + 1, 0, none⟩ (.int .u8 zk)).setCell ⟨w.heap.size + 1, 1, none⟩ (.int .u8 zo)).setCell ⟨w.heap.size + 1, 2, none⟩ (.int .u32 zv)).setCell ⟨w.heap.size + 1, 3, none⟩ (.int .i64 zw)).setCell ⟨w.heap.size + 1, 4, none⟩ (.string zn)).setCell ⟨w.heap.size + 1, 5, none⟩ (.slice zA zs.length zc)) := Only.six (i := 0) (Only.refl _ _) (.inl (by simp)) _ _ _ _ _ _
 have hbf := (((((hr3.set_ 0 (.int .u8 zk)).set_ 1 (.int .u8 zo)).set_ 2 (.int .u32 zv)).set_ 3 (.int .i64 zw)).set_ 4 (.string zn)).set_ 5 (.slice zA zs.length zc)
 simp only [List.setIfInBounds_toArray, List.set_cons_zero, List.set_cons_succ] at hbf
 have hb4 := hb3.only hof (by simp)
 refine callH 5 rfl (by kernel_rfl) (fun K hK => ?_)
 rw [if_pos (by rfl)]
 refine wp_store_six 30 (.tmp 6) (.tmp 16) rfl (w.heap.size + 1) 0 (.int .u8 zk) (.int .u8 zo) (.int .u32 zv) (.int .i64 zw) (.string zn) (.slice zA zs.length zc) rfl rfl (there_blk hr3 (by simp)) (by kernel_rfl) (by simp [Value.oneCell']) ?_
 refine hK.out _ _ (hSi.out _ ⟨hb4.cell 0, hb4.cell 1, hb4.cell 2, hb4.cell 3, hb4.cell 4, hb4.cell 5⟩) (fun hSn => ?_)
 clear hK K hS
 have hS := hSn
 clear hSn
 refine wpAnyH_done (by kernel_rfl) ?_ _
 go_wp2
 refine bodyPost_ret (results_cell_row rfl _ _ (w.heap.size + 1) 30 _ (0, 0) _ rfl hbf Tryz.underlying30 rfl (by kernel_rfl)) rfl ?_
 have hw2 : w.heap.size + 1 < w2.heap.size := hr2.lt
 have hB03 := below_and hB02 hB3
 refine ⟨Ex.mk ⟨zk, zo, zv, zw, zn⟩ ⟨zA, zc⟩ zs, rfl, hLp, (hLo.keep hof fun q hq hm => ?_).base_le hB02.size, hLn, hB03.trans (hof.below hB03.size (by simp))⟩
 have h1 : w2.heap.size ≤ q := (hLo.ge q hq).1
 simp at hm
 omega
set_option maxRecDepth 100000 in
theorem renameS_yes (ls : List (St Loc)) (lc : Loc) (from_ to_ : ByteArray) (w : World) (hok : Lst.ok eT w lc ls) (hs : szS ls ≤ 20000) :
  Calls Tryz.prog 17 #[.slice lc.A ls.length lc.c, .string from_, .string to_] w fun r w' => ∃ (tA : Option Addr) (tc : Nat) (news : List (St Loc)), r = .returned (.slice tA ls.length tc) ∧ news.length = ls.length ∧ plainS news = renS (chg from_ to_) ls ∧ Lst.own eT w' w.heap.size ⟨tA, tc⟩ news ∧ (Lst.fp ⟨tA, tc⟩ news).Nodup ∧ Below w.heap.size w w' := by
 have hc := countS0 ls lc (thin_of hs) w hok
 have hl := lightS ls hs
 have hcall := fun w2 (Bf Bt : Nat) (h2 : Below w.heap.size w w2) (hf : Blk w2 Bf 9 #[.string from_]) (ht : Blk w2 Bt 9 #[.string to_]) => namedS_chg Bf Bt from_ to_ ls lc w2 (hok.all (keeps_below h2)) hs hf ht
 obtain ⟨P, hP⟩ : ∃ P, P = renS (chg from_ to_) ls := ⟨_, rfl⟩
 rw [← hP] at hcall ⊢
 obtain ⟨c, hcc⟩ : ∃ c, c = cntL (nodesS ls) 0 := ⟨_, rfl⟩
 rw [← hcc] at hc hl
 obtain ⟨n, hn⟩ : ∃ n, n = ls.length := ⟨_, rfl⟩
 rw [← hn] at hc hcall ⊢
 replace hn := Lib.hid hn
 replace hcc := Lib.hid hcc
 replace hP := Lib.hid hP
 replace hs := Lib.hid hs
 replace hc := Lib.hid hc
 replace hl := Lib.hid hl
 replace hcall := Lib.hid hcall
 go_enter Tryz.func17, Tryz.ntmps17
 go_wp2_with fail
 refine hc.out.mono ?_
 rintro e w1 ⟨rfl, hB1⟩
 go_wp2_with (first | (go_at_call 78; with_reducible refine (hl.out _).mono ?_; rintro e w' ⟨rfl, rfl⟩) | (go_at_call 84; refine (change_ok _ _ _).mono ?_; rintro e w2 ⟨rfl, rfl⟩))
 have hB2 : Below w1.heap.size w1 ((w1.alloc (.cells #[.string from_] 9)).alloc (.cells #[.string to_] 9)) := ((Below.refl _ w1).alloc (Nat.le_refl _) _).alloc (by simp) _
 have hf2 := (Blk.new w1 9 #[.string from_]).alloc (.cells #[.string to_] 9)
 have ht2 := Blk.new (w1.alloc (.cells #[.string from_] 9)) 9 #[.string to_]
 rw [World.size_alloc] at ht2
 generalize (w1.alloc (.cells #[.string from_] 9)).alloc (.cells #[.string to_] 9) = w2 at *
 have hB02 := below_and hB1 hB2
 refine (hcall.out w2 _ _ hB02 hf2 ht2).mono ?_
 rintro e w3 ⟨tA, tc, news, rfl, h1, h2, h3, h4, hB3⟩
 go_wp2
 go_ret
 exact ⟨tA, tc, news, rfl, h1, h2, h3.base_le hB02.size, h4, below_and hB02 hB3⟩
end Go.Proofs.YtnldbplphgfpeaaGreat
namespace Go.Proofs.YtnldbplphgfpeaaGreat
open Go Go.RowKit Go.Shelf
set_option linter.unusedVariables false
set_option linter.unusedSimpArgs false
structure Dc where
 nm : ByteArray
 wd : Int
 sz : Int
structure In (α : Type) where
 bk : Int
 val : Ex α
structure Pr (α : Type) where
 nm : ByteArray
 lp : α
 ps : List Dc
 lb : α
 body : List (St α)
structure Pg (α : Type) where
 bl : Int
 wd : Int
 li : α
 ins : List Dc
 lg : α
 gh : List Dc
 lv : α
 va : List Dc
 la : α
 ar : List Dc
 req : Ex α
 ln : α
 inits : List (In α)
 lpr : α
 procs : List (Pr α)
 lw : α
 work : List (St α)
 lr : α
 recov : List (St α)
 inv : Ex α
section
variable {α β : Type}
def In.plain (x : In α) : In Unit := ⟨x.bk, x.val.plain⟩
def Pr.plain (x : Pr α) : Pr Unit := ⟨x.nm, (), x.ps, (), plainS x.body⟩
def Pg.plain (p : Pg α) : Pg Unit := ⟨p.bl, p.wd, (), p.ins, (), p.gh, (), p.va, (), p.ar, p.req.plain, (), p.inits.map In.plain, (), p.procs.map Pr.plain, (), plainS p.work, (), plainS p.recov, p.inv.plain⟩
def szI (l : List (In α)) : Nat := (l.map fun x => 1 + x.val.sz).sum
def szPr (l : List (Pr α)) : Nat := (l.map fun x => 1 + x.ps.length + szS x.body).sum
def Pg.sz (p : Pg α) : Nat := p.ins.length + p.gh.length + p.va.length + p.ar.length + 1 + p.req.sz + szI p.inits + szPr p.procs + szS p.work + szS p.recov + p.inv.sz
theorem szI_mem {l : List (In α)} {x : In α} (h : x ∈ l) : 1 + x.val.sz ≤ szI l := by
 induction l with
 | nil => cases h
 | cons y l ih =>
  simp only [szI, List.map_cons, List.sum_cons] at ih ⊢
  rcases List.mem_cons.1 h with e | h
  ·rw [e]; omega
  ·have := ih h; omega
theorem szPr_mem {l : List (Pr α)} {x : Pr α} (h : x ∈ l) : 1 + x.ps.length + szS x.body ≤ szPr l := by
 induction l with
 | nil => cases h
 | cons y l ih =>
  simp only [szPr, List.map_cons, List.sum_cons] at ih ⊢
  rcases List.mem_cons.1 h with e | h
  ·rw [e]; omega
  ·have := ih h; omega
theorem szI_len (l : List (In α)) : l.length ≤ szI l := by
 induction l with
 | nil => exact Nat.le_refl _
 | cons y l ih => simp only [szI, List.map_cons, List.sum_cons, List.length_cons] at ih ⊢; omega
theorem szPr_len (l : List (Pr α)) : l.length ≤ szPr l := by
 induction l with
 | nil => exact Nat.le_refl _
 | cons y l ih => simp only [szPr, List.map_cons, List.sum_cons, List.length_cons] at ih ⊢; omega
theorem szI_append (a b : List (In α)) : szI (a ++ b) = szI a + szI b := by simp [szI]
theorem szPr_append (a b : List (Pr α)) : szPr (a ++ b) = szPr a + szPr b := by simp [szPr]
theorem szI_plain (l : List (In α)) : szI (l.map In.plain) = szI l := by
 induction l with
 | nil => rfl
 | cons y l ih => simp only [szI, List.map_cons, List.sum_cons] at ih ⊢; rw [ih]; simp only [In.plain, Ex.sz_plain]
theorem szPr_plain (l : List (Pr α)) : szPr (l.map Pr.plain) = szPr l := by
 induction l with
 | nil => rfl
 | cons y l ih => simp only [szPr, List.map_cons, List.sum_cons] at ih ⊢; rw [ih]; simp only [Pr.plain, szS_plain]
theorem Pg.sz_plain (p : Pg α) : p.plain.sz = p.sz := by
 simp only [Pg.sz, Pg.plain, szI_plain, szPr_plain, szS_plain, Ex.sz_plain]
def Dc.eq (a b : Dc) : Bool := a.nm.toList == b.nm.toList && (a.wd == b.wd && a.sz == b.sz)
theorem Dc.eq_iff {a b : Dc} : a.eq b = true ↔ a = b := by
 cases a; cases b
 simp [Dc.eq, and_assoc, bl_iff]
def sameD : List Dc → List Dc → Bool
 | [], [] => true
 | x :: r, y :: r' => x.eq y && sameD r r'
 | [], _ :: _ => false
 | _ :: _, [] => false
theorem sameD_iff : ∀ {a b : List Dc}, sameD a b = true ↔ a = b
 | [], [] => by simp [sameD]
 | x :: r, y :: r' => by simp only [sameD, Bool.and_eq_true, Dc.eq_iff, sameD_iff (a := r), List.cons.injEq]
 | [], _ :: _ => by simp [sameD]
 | _ :: _, [] => by simp [sameD]
def In.same (a : In α) (b : In β) : Bool := a.bk == b.bk && a.val.same b.val
def Pr.same (a : Pr α) (b : Pr β) : Bool := a.nm.toList == b.nm.toList && (sameD a.ps b.ps && sameS a.body b.body)
def sameI : List (In α) → List (In β) → Bool
 | [], [] => true
 | x :: r, y :: r' => x.same y && sameI r r'
 | [], _ :: _ => false
 | _ :: _, [] => false
def samePr : List (Pr α) → List (Pr β) → Bool
 | [], [] => true
 | x :: r, y :: r' => x.same y && samePr r r'
 | [], _ :: _ => false
 | _ :: _, [] => false
theorem In.same_iff {a : In α} {b : In β} : a.same b = true ↔ a.plain = b.plain := by
 cases a; cases b
 simp only [In.same, In.plain, Bool.and_eq_true, beq_iff_eq, Ex.same_iff, In.mk.injEq]
theorem Pr.same_iff {a : Pr α} {b : Pr β} : a.same b = true ↔ a.plain = b.plain := by
 cases a; cases b
 simp only [Pr.same, Pr.plain, Bool.and_eq_true, beq_iff_eq, bl_iff, sameD_iff, sameS_iff, Pr.mk.injEq, true_and]
theorem sameI_iff : ∀ {a : List (In α)} {b : List (In β)}, sameI a b = true ↔ a.map In.plain = b.map In.plain
 | [], [] => by simp [sameI]
 | x :: r, y :: r' => by simp only [sameI, Bool.and_eq_true, In.same_iff, sameI_iff (a := r), List.map_cons, List.cons.injEq]
 | [], _ :: _ => by simp [sameI]
 | _ :: _, [] => by simp [sameI]
theorem samePr_iff : ∀ {a : List (Pr α)} {b : List (Pr β)}, samePr a b = true ↔ a.map Pr.plain = b.map Pr.plain
 | [], [] => by simp [samePr]
 | x :: r, y :: r' => by simp only [samePr, Bool.and_eq_true, Pr.same_iff, samePr_iff (a := r), List.map_cons, List.cons.injEq]
 | [], _ :: _ => by simp [samePr]
 | _ :: _, [] => by simp [samePr]
def Pg.same (a : Pg α) (b : Pg β) : Bool :=
 (a.bl == b.bl && a.wd == b.wd) && ((sameD a.ins b.ins && (sameD a.gh b.gh && (sameD a.va b.va && sameD a.ar b.ar))) && (a.req.same b.req && (sameI a.inits b.inits && (samePr a.procs b.procs && (sameS a.work b.work && (sameS a.recov b.recov && a.inv.same b.inv))))))
theorem Pg.same_iff {a : Pg α} {b : Pg β} : a.same b = true ↔ a.plain = b.plain := by
 cases a; cases b
 simp only [Pg.same, Pg.plain, Bool.and_eq_true, beq_iff_eq, sameD_iff, sameI_iff, samePr_iff, sameS_iff, Ex.same_iff, Pg.mk.injEq, true_and, and_assoc]
end
def Dc.cells (d : Dc) : List Value := [.string d.nm, .int .i64 d.wd, .int .i64 d.sz]
def cellsD (l : List Dc) : List Value := l.flatMap Dc.cells
def In.cells (E : Enc) (x : In Loc) : List Value := .int .i64 x.bk :: x.val.cells E
def cellsI (E : Enc) (l : List (In Loc)) : List Value := l.flatMap (In.cells E)
def Pr.cells (x : Pr Loc) : List Value := [.string x.nm, .slice x.lp.A x.ps.length x.lp.c, .slice x.lb.A x.body.length x.lb.c]
def cellsP (l : List (Pr Loc)) : List Value := l.flatMap Pr.cells
def Pg.cells (E : Enc) (p : Pg Loc) : List Value :=
 .int .i64 p.bl :: .int .i64 p.wd :: .slice p.li.A p.ins.length p.li.c :: .slice p.lg.A p.gh.length p.lg.c :: .slice p.lv.A p.va.length p.lv.c :: .slice p.la.A p.ar.length p.la.c ::
  (p.req.cells E ++ (.slice p.ln.A p.inits.length p.ln.c :: .slice p.lpr.A p.procs.length p.lpr.c :: .slice p.lw.A p.work.length p.lw.c :: .slice p.lr.A p.recov.length p.lr.c :: p.inv.cells E))
theorem In.cells_len (E : Enc) (x : In Loc) : (x.cells E).length = 7 := by simp [In.cells, Ex.cells_len]
theorem Dc.cells_len (d : Dc) : d.cells.length = 3 := rfl
theorem Pr.cells_len (x : Pr Loc) : x.cells.length = 3 := rfl
theorem cellsD_len (l : List Dc) : (cellsD l).length = l.length * 3 := by
 induction l with
 | nil => rfl
 | cons x s ih => simp only [cellsD, List.flatMap_cons, List.length_append, List.length_cons, Dc.cells_len] at ih ⊢; omega
theorem cellsI_len (E : Enc) (l : List (In Loc)) : (cellsI E l).length = l.length * 7 := by
 induction l with
 | nil => rfl
 | cons x s ih => simp only [cellsI, List.flatMap_cons, List.length_append, List.length_cons, In.cells_len] at ih ⊢; omega
theorem cellsP_len (l : List (Pr Loc)) : (cellsP l).length = l.length * 3 := by
 induction l with
 | nil => rfl
 | cons x s ih => simp only [cellsP, List.flatMap_cons, List.length_append, List.length_cons, Pr.cells_len] at ih ⊢; omega
theorem cellsD_one (s : List Dc) : ∀ u ∈ cellsD s, u.oneCell' = true := fun u hu => by
 obtain ⟨x, _, hx⟩ := List.mem_flatMap.1 hu
 simp only [Dc.cells, List.mem_cons, List.not_mem_nil, or_false] at hx
 rcases hx with rfl | rfl | rfl <;> rfl
theorem cellsI_one (E : Enc) (s : List (In Loc)) : ∀ u ∈ cellsI E s, u.oneCell' = true := fun u hu => by
 obtain ⟨x, _, hx⟩ := List.mem_flatMap.1 hu
 rcases List.mem_cons.1 hx with rfl | hx
 ·rfl
 ·exact x.val.cells_one E u hx
theorem cellsP_one (s : List (Pr Loc)) : ∀ u ∈ cellsP s, u.oneCell' = true := fun u hu => by
 obtain ⟨x, _, hx⟩ := List.mem_flatMap.1 hu
 simp only [Pr.cells, List.mem_cons, List.not_mem_nil, or_false] at hx
 rcases hx with rfl | rfl | rfl <;> rfl
def Lin.ok (E : Enc) (w : World) (l : Loc) (s : List (In Loc)) : Prop := RowIn w 7 l s.length (cellsI E s) ∧ ∀ x ∈ s, x.val.ok E w
def Pr.ok (E : Enc) (w : World) (x : Pr Loc) : Prop := RowIn w 3 x.lp x.ps.length (cellsD x.ps) ∧ Lst.ok E w x.lb x.body
def Lpr.ok (E : Enc) (w : World) (l : Loc) (s : List (Pr Loc)) : Prop := RowIn w 3 l s.length (cellsP s) ∧ ∀ x ∈ s, x.ok E w
structure Pg.ok (E : Enc) (w : World) (p : Pg Loc) : Prop where
 ins : RowIn w 3 p.li p.ins.length (cellsD p.ins)
 gh : RowIn w 3 p.lg p.gh.length (cellsD p.gh)
 va : RowIn w 3 p.lv p.va.length (cellsD p.va)
 ar : RowIn w 3 p.la p.ar.length (cellsD p.ar)
 req : p.req.ok E w
 inits : Lin.ok E w p.ln p.inits
 procs : Lpr.ok E w p.lpr p.procs
 work : Lst.ok E w p.lw p.work
 recov : Lst.ok E w p.lr p.recov
 inv : p.inv.ok E w
def Lin.blks (l : Loc) (s : List (In Loc)) : List Nat := l.blk s.length ++ s.flatMap fun x => x.val.blks
def Pr.blks (x : Pr Loc) : List Nat := x.lp.blk x.ps.length ++ (x.lb.blk x.body.length ++ blkS x.body)
def Lpr.blks (l : Loc) (s : List (Pr Loc)) : List Nat := l.blk s.length ++ s.flatMap Pr.blks
def Pg.blks (p : Pg Loc) : List Nat := p.li.blk p.ins.length ++ (p.lg.blk p.gh.length ++ (p.lv.blk p.va.length ++ (p.la.blk p.ar.length ++ (p.req.blks ++ (Lin.blks p.ln p.inits ++ (Lpr.blks p.lpr p.procs ++ ((p.lw.blk p.work.length ++ blkS p.work) ++ ((p.lr.blk p.recov.length ++ blkS p.recov) ++ p.inv.blks))))))))
section
variable {E : Enc} {w w' : World} {S : Nat → Prop}
theorem Lin.ok.keep (k : KeepsOn S w w') {l : Loc} {s : List (In Loc)} (h : Lin.ok E w l s) (hb : ∀ b ∈ Lin.blks l s, S b) : Lin.ok E w' l s :=
 ⟨h.1.keep k fun b hm => hb b (List.mem_append_left _ hm), fun x hx => (h.2 x hx).keep k fun b hm => hb b (List.mem_append_right _ (List.mem_flatMap.2 ⟨x, hx, hm⟩))⟩
theorem Pr.ok.keep (k : KeepsOn S w w') {x : Pr Loc} (h : x.ok E w) (hb : ∀ b ∈ x.blks, S b) : x.ok E w' :=
 ⟨h.1.keep k fun b hm => hb b (List.mem_append_left _ hm), h.2.keep k fun b hm => hb b (List.mem_append_right _ hm)⟩
theorem Lpr.ok.keep (k : KeepsOn S w w') {l : Loc} {s : List (Pr Loc)} (h : Lpr.ok E w l s) (hb : ∀ b ∈ Lpr.blks l s, S b) : Lpr.ok E w' l s :=
 ⟨h.1.keep k fun b hm => hb b (List.mem_append_left _ hm), fun x hx => (h.2 x hx).keep k fun b hm => hb b (List.mem_append_right _ (List.mem_flatMap.2 ⟨x, hx, hm⟩))⟩
theorem Pg.ok.keep (k : KeepsOn S w w') {p : Pg Loc} (h : p.ok E w) (hb : ∀ b ∈ p.blks, S b) : p.ok E w' := by
 simp only [Pg.blks, List.mem_append] at hb
 exact ⟨h.ins.keep k fun b hm => hb b (.inl hm), h.gh.keep k fun b hm => hb b (.inr (.inl hm)), h.va.keep k fun b hm => hb b (.inr (.inr (.inl hm))), h.ar.keep k fun b hm => hb b (.inr (.inr (.inr (.inl hm)))),
  h.req.keep k fun b hm => hb b (.inr (.inr (.inr (.inr (.inl hm))))), h.inits.keep k fun b hm => hb b (.inr (.inr (.inr (.inr (.inr (.inl hm)))))),
  h.procs.keep k fun b hm => hb b (.inr (.inr (.inr (.inr (.inr (.inr (.inl hm))))))),
  h.work.keep k fun b hm => hb b (.inr (.inr (.inr (.inr (.inr (.inr (.inr (.inl (List.mem_append.1 hm))))))))),
  h.recov.keep k fun b hm => hb b (.inr (.inr (.inr (.inr (.inr (.inr (.inr (.inr (.inl (List.mem_append.1 hm)))))))))),
  h.inv.keep k fun b hm => hb b (.inr (.inr (.inr (.inr (.inr (.inr (.inr (.inr (.inr hm)))))))))⟩
theorem Pg.ok.all (k : KeepsOn (fun _ => True) w w') {p : Pg Loc} (h : p.ok E w) : p.ok E w' := h.keep k (fun _ _ => trivial)
theorem Pg.ok.below {p : Pg Loc} (h : p.ok E w) (hb : Below w.heap.size w w') : p.ok E w' := h.all (keeps_below hb)
theorem Lin.ok.at {l : Loc} {s : List (In Loc)} (h : Lin.ok E w l s) {k : Nat} {x : In Loc} (hx : s[k]? = some x) :
  ∃ ad, l.A = some ad ∧ k < s.length ∧ x.val.ok E w ∧ CellsAt w (ad.add (k * 7)) (x.cells E) := by
 obtain ⟨ad, h1, h2, h3, h4⟩ := RowIn.at (In.cells_len E) h.1 hx
 exact ⟨ad, h1, h3, h.2 x (List.mem_of_getElem? hx), h4⟩
theorem Lpr.ok.at {l : Loc} {s : List (Pr Loc)} (h : Lpr.ok E w l s) {k : Nat} {x : Pr Loc} (hx : s[k]? = some x) :
  ∃ ad, l.A = some ad ∧ k < s.length ∧ x.ok E w ∧ CellsAt w (ad.add (k * 3)) x.cells := by
 obtain ⟨ad, h1, h2, h3, h4⟩ := RowIn.at Pr.cells_len h.1 hx
 exact ⟨ad, h1, h3, h.2 x (List.mem_of_getElem? hx), h4⟩
theorem CellsAt.c7 {p : Addr} {z a b c d e f : Value} (h : CellsAt w p [z, a, b, c, d, e, f]) : w.cell? p = some z ∧ w.cell? ⟨p.block, p.off + 1, none⟩ = some a ∧ w.cell? ⟨p.block, p.off + 2, none⟩ = some b ∧
  w.cell? ⟨p.block, p.off + 3, none⟩ = some c ∧ w.cell? ⟨p.block, p.off + 4, none⟩ = some d ∧ w.cell? ⟨p.block, p.off + 5, none⟩ = some e ∧ w.cell? ⟨p.block, p.off + 6, none⟩ = some f :=
 ⟨h.one, h.nth (by omega) rfl, h.nth (by omega) rfl, h.nth (by omega) rfl, h.nth (by omega) rfl, h.nth (by omega) rfl, h.nth (by omega) rfl⟩
end
def cntI {α : Type} : List (In α) → Nat → Nat
 | [], n => n
 | x :: r, n => cntI r (capE (n + 1) x.val.sz)
def cntPr {α : Type} : List (Pr α) → Nat → Nat
 | [], n => n
 | x :: r, n => cntPr r (cntL (nodesS x.body) (n + 1 + x.ps.length))
def cntP {α : Type} (p : Pg α) : Nat :=
 capE (cntL (nodesS p.recov) (cntL (nodesS p.work) (cntPr p.procs (cntI p.inits (capE (p.ins.length + p.gh.length + p.va.length + p.ar.length + 1) p.req.sz))))) p.inv.sz
section
variable {α : Type}
theorem cntI_exact : ∀ (l : List (In α)) (n : Nat), n + szI l ≤ 20000 → cntI l n = n + szI l
 | [], n, _ => rfl
 | x :: l, n, h => by
  simp only [szI, List.map_cons, List.sum_cons] at h ⊢
  simp only [cntI]
  rw [capE_yes (by omega), cntI_exact l _ (by simp only [szI]; omega)]
  simp only [szI]; omega
theorem cntI_more : ∀ (l : List (In α)) (n : Nat), 20000 < n + szI l → 20000 < cntI l n
 | [], n, h => by simpa [cntI, szI] using h
 | x :: l, n, h => by
  simp only [szI, List.map_cons, List.sum_cons] at h
  simp only [cntI]
  refine cntI_more l _ ?_
  simp only [szI]
  by_cases h2 : n + 1 + x.val.sz ≤ 20000
  ·rw [capE_yes h2]; omega
  ·have := capE_no (b := n + 1) (s := x.val.sz) (by omega); omega
theorem cntI_le : ∀ (l : List (In α)) (n : Nat), cntI l n ≤ max n 20001 + 2 * l.length
 | [], n => by simp only [cntI]; omega
 | x :: l, n => by
  have := cntI_le l (capE (n + 1) x.val.sz)
  have h2 : capE (n + 1) x.val.sz ≤ max (n + 2) 20001 := by unfold capE; omega
  simp only [cntI, List.length_cons]; omega
theorem cntI_append : ∀ (a b : List (In α)) (n : Nat), cntI (a ++ b) n = cntI b (cntI a n)
 | [], b, n => rfl
 | x :: a, b, n => by simp only [List.cons_append, cntI, cntI_append a b]
theorem cntPr_append : ∀ (a b : List (Pr α)) (n : Nat), cntPr (a ++ b) n = cntPr b (cntPr a n)
 | [], b, n => rfl
 | x :: a, b, n => by simp only [List.cons_append, cntPr, cntPr_append a b]
theorem cntPr_exact : ∀ (l : List (Pr α)) (n : Nat), n + szPr l ≤ 20000 → cntPr l n = n + szPr l
 | [], n, _ => rfl
 | x :: l, n, h => by
  simp only [szPr, List.map_cons, List.sum_cons] at h ⊢
  simp only [cntPr]
  rw [cntL_exact _ _ (by rw [wt_nodesS]; omega), wt_nodesS, cntPr_exact l _ (by simp only [szPr]; omega)]
  simp only [szPr]; omega
theorem cntPr_more : ∀ (l : List (Pr α)) (n : Nat), 20000 < n + szPr l → 20000 < cntPr l n
 | [], n, h => by simpa [cntPr, szPr] using h
 | x :: l, n, h => by
  simp only [szPr, List.map_cons, List.sum_cons] at h
  simp only [cntPr]
  refine cntPr_more l _ ?_
  simp only [szPr]
  by_cases h2 : n + 1 + x.ps.length + szS x.body ≤ 20000
  ·rw [cntL_exact _ _ (by rw [wt_nodesS]; omega), wt_nodesS]; omega
  ·have := cntL_more (nodesS x.body) (n + 1 + x.ps.length) (by rw [wt_nodesS]; omega); omega
structure Pg.Slim (p : Pg α) : Prop where
 ins : p.ins.length ≤ 20000
 gh : p.gh.length ≤ 20000
 va : p.va.length ≤ 20000
 ar : p.ar.length ≤ 20000
 inits : p.inits.length ≤ 20000
 procs : p.procs.length ≤ 20000
 ps : ∀ x ∈ p.procs, x.ps.length ≤ 20000 ∧ Thin x.body
 work : Thin p.work
 recov : Thin p.recov
theorem cntPr_le (l : List (Pr α)) (n : Nat) (h : ∀ x ∈ l, x.ps.length ≤ 20000 ∧ Thin x.body) (hb : n + 70000 * l.length ≤ 1000000000000) : cntPr l n ≤ max n 20001 + 70000 * l.length := by
 induction l generalizing n with
 | nil => simp only [cntPr]; omega
 | cons x l ih =>
  have hx := h x (by simp)
  simp only [List.length_cons] at hb ⊢
  have h1 := cntL_le (nodesS x.body) (n + 1 + x.ps.length) hx.2 (by omega)
  have := ih (cntL (nodesS x.body) (n + 1 + x.ps.length)) (fun y hy => h y (by simp [hy])) (by omega)
  simp only [cntPr]; omega
theorem slim_of {p : Pg α} (h : p.sz ≤ 20000) : p.Slim := by
 have h1 := szI_len p.inits
 have h2 := szPr_len p.procs
 unfold Pg.sz at h
 exact ⟨by omega, by omega, by omega, by omega, by omega, by omega, fun x hx => by
  have h3 := szPr_mem hx
  exact ⟨by omega, thin_of (by omega)⟩, thin_of (by omega), thin_of (by omega)⟩
theorem cntP_exact {p : Pg α} (h : p.sz ≤ 20000) : cntP p = p.sz := by
 unfold Pg.sz at h ⊢
 unfold cntP
 have e1 : capE (p.ins.length + p.gh.length + p.va.length + p.ar.length + 1) p.req.sz = p.ins.length + p.gh.length + p.va.length + p.ar.length + 1 + p.req.sz := capE_yes (by omega)
 rw [e1, cntI_exact _ _ (by omega), cntPr_exact _ _ (by omega)]
 have e2 : cntL (nodesS p.work) (p.ins.length + p.gh.length + p.va.length + p.ar.length + 1 + p.req.sz + szI p.inits + szPr p.procs) = p.ins.length + p.gh.length + p.va.length + p.ar.length + 1 + p.req.sz + szI p.inits + szPr p.procs + szS p.work := by
  rw [cntL_exact _ _ (by rw [wt_nodesS]; omega), wt_nodesS]
 rw [e2, cntL_exact _ _ (by rw [wt_nodesS]; omega), wt_nodesS, capE_yes (by omega)]
theorem cntP_more {p : Pg α} (h : 20000 < p.sz) : 20000 < cntP p := by
 unfold Pg.sz at h
 unfold cntP
 have hi := p.inv.sz_pos
 obtain ⟨b0, hb0⟩ : ∃ b, b = p.ins.length + p.gh.length + p.va.length + p.ar.length + 1 := ⟨_, rfl⟩
 rw [← hb0] at h ⊢
 have s1 : 20000 < capE b0 p.req.sz ∨ (capE b0 p.req.sz = b0 + p.req.sz) := by
  by_cases h2 : b0 + p.req.sz ≤ 20000
  ·exact .inr (capE_yes h2)
  ·exact .inl (capE_no (by omega))
 obtain ⟨n1, h1⟩ : ∃ n, n = capE b0 p.req.sz := ⟨_, rfl⟩
 rw [← h1] at s1 ⊢
 have s2 : 20000 < cntI p.inits n1 ∨ cntI p.inits n1 = n1 + szI p.inits := by
  by_cases h2 : n1 + szI p.inits ≤ 20000
  ·exact .inr (cntI_exact _ _ h2)
  ·exact .inl (cntI_more _ _ (by omega))
 obtain ⟨n2, h2⟩ : ∃ n, n = cntI p.inits n1 := ⟨_, rfl⟩
 rw [← h2] at s2 ⊢
 have s2' : n1 ≤ n2 ∨ 20000 < n2 := by omega
 have s3 : 20000 < cntPr p.procs n2 ∨ cntPr p.procs n2 = n2 + szPr p.procs := by
  by_cases h2 : n2 + szPr p.procs ≤ 20000
  ·exact .inr (cntPr_exact _ _ h2)
  ·exact .inl (cntPr_more _ _ (by omega))
 obtain ⟨n3, h3⟩ : ∃ n, n = cntPr p.procs n2 := ⟨_, rfl⟩
 rw [← h3] at s3 ⊢
 have s4 : 20000 < cntL (nodesS p.work) n3 ∨ cntL (nodesS p.work) n3 = n3 + szS p.work := by
  by_cases h2 : n3 + szS p.work ≤ 20000
  ·exact .inr (by rw [cntL_exact _ _ (by rw [wt_nodesS]; omega), wt_nodesS])
  ·exact .inl (cntL_more _ _ (by rw [wt_nodesS]; omega))
 obtain ⟨n4, h4⟩ : ∃ n, n = cntL (nodesS p.work) n3 := ⟨_, rfl⟩
 rw [← h4] at s4 ⊢
 have s5 : 20000 < cntL (nodesS p.recov) n4 ∨ cntL (nodesS p.recov) n4 = n4 + szS p.recov := by
  by_cases h2 : n4 + szS p.recov ≤ 20000
  ·exact .inr (by rw [cntL_exact _ _ (by rw [wt_nodesS]; omega), wt_nodesS])
  ·exact .inl (cntL_more _ _ (by rw [wt_nodesS]; omega))
 obtain ⟨n5, h5⟩ : ∃ n, n = cntL (nodesS p.recov) n4 := ⟨_, rfl⟩
 rw [← h5] at s5 ⊢
 have m1 : n2 ≥ n1 ∨ 20000 < n2 := by omega
 refine capE_no ?_
 omega
end
end Go.Proofs.YtnldbplphgfpeaaGreat
namespace Go.Proofs.YtnldbplphgfpeaaGreat
open Go Go.RowKit Go.Shelf
set_option linter.unusedVariables false
set_option linter.unusedSimpArgs false
set_option maxHeartbeats 4000000
def aggP (p : Pg Loc) : Value := .agg (p.cells eT).toArray
theorem cntI_take {α : Type} {l : List (In α)} {k : Nat} {x : In α} (h : l[k]? = some x) (n : Nat) : cntI (l.take (k + 1)) n = capE (cntI (l.take k) n + 1) x.val.sz := by
 obtain ⟨hk, e⟩ := List.getElem?_eq_some_iff.1 h
 rw [List.take_succ_eq_append_getElem hk, cntI_append, e]; rfl
theorem cntPr_take {α : Type} {l : List (Pr α)} {k : Nat} {x : Pr α} (h : l[k]? = some x) (n : Nat) : cntPr (l.take (k + 1)) n = cntL (nodesS x.body) (cntPr (l.take k) n + 1 + x.ps.length) := by
 obtain ⟨hk, e⟩ := List.getElem?_eq_some_iff.1 h
 rw [List.take_succ_eq_append_getElem hk, cntPr_append, e]; rfl
set_option maxRecDepth 100000 in
theorem count_ok (p : Pg Loc) (w : World) (hok : p.ok eT w) (hs : p.Slim) : Calls Tryz.prog 91 #[aggP p] w fun r w' => r = .returned (.int .i64 (cntP p : Nat)) ∧ Below w.heap.size w w' := by
 obtain ⟨bl, wd, ⟨A2, c2⟩, ins, ⟨A3, c3⟩, gh, ⟨A4, c4⟩, va, ⟨A5, c5⟩, ar, ⟨⟨rk, ro, rv, rwd, rn⟩, ⟨rA, rc⟩, rs⟩, ⟨A7, c7⟩, inits, ⟨A8, c8⟩, procs, ⟨A9, c9⟩, work, ⟨A10, c10⟩, recov, ⟨⟨ik, io, iv, iwd, inn⟩, ⟨iA, ic⟩, is⟩⟩ := p
 obtain ⟨N, hN⟩ : ∃ N, N = cntP (Pg.mk bl wd ⟨A2, c2⟩ ins ⟨A3, c3⟩ gh ⟨A4, c4⟩ va ⟨A5, c5⟩ ar (Ex.mk ⟨rk, ro, rv, rwd, rn⟩ (⟨rA, rc⟩ : Loc) rs) ⟨A7, c7⟩ inits ⟨A8, c8⟩ procs ⟨A9, c9⟩ work ⟨A10, c10⟩ recov (Ex.mk ⟨ik, io, iv, iwd, inn⟩ (⟨iA, ic⟩ : Loc) is)) := ⟨_, rfl⟩
 rw [← hN]
 obtain ⟨k1, k2, k3, k4, k5, k6, k7, k8, k9, k10⟩ := hok
 obtain ⟨s1, s2, s3, s4, s5, s6, s7, s8, s9⟩ := hs
 dsimp only at k1 k2 k3 k4 k5 k6 k7 k8 k9 k10 s1 s2 s3 s4 s5 s6 s7 s8 s9
 have b1 := (k1.2.1 : ins.length ≤ c2)
 obtain ⟨n0, hn0⟩ : ∃ n, n = ins.length + gh.length + va.length + ar.length + 1 := ⟨_, rfl⟩
 have hn0b : n0 ≤ 80001 := by omega
 have hc0 := fun w2 (h2 : Below w.heap.size w w2) => countE (Ex.mk ⟨rk, ro, rv, rwd, rn⟩ (⟨rA, rc⟩ : Loc) rs) n0 (by omega) w2 (k5.below h2)
 obtain ⟨n1, hn1⟩ : ∃ n, n = capE n0 (Ex.mk ⟨rk, ro, rv, rwd, rn⟩ (⟨rA, rc⟩ : Loc) rs).sz := ⟨_, rfl⟩
 have hn1b : n1 ≤ 80002 := by rw [hn1]; unfold capE; omega
 rw [← hn1] at hc0
 have hi : ∀ k, cntI (inits.take k) n1 ≤ 150000 := fun k => by
  have h1 : (inits.take k).length ≤ inits.length := by rw [List.length_take]; omega
  have h2 := cntI_le (inits.take k) n1
  omega
 obtain ⟨n2, hn2⟩ : ∃ n, n = cntI inits n1 := ⟨_, rfl⟩
 have hn2b : n2 ≤ 150000 := by
  have := cntI_le inits n1
  omega
 have hpr : ∀ k, cntPr (procs.take k) n2 ≤ 2000000000 := fun k => by
  have h1 : (procs.take k).length ≤ procs.length := by rw [List.length_take]; omega
  have h2 := cntPr_le (procs.take k) n2 (fun x hx => s7 x (List.mem_of_mem_take hx)) (by omega)
  omega
 obtain ⟨n3, hn3⟩ : ∃ n, n = cntPr procs n2 := ⟨_, rfl⟩
 have hn3b : n3 ≤ 2000000000 := by
  have := cntPr_le procs n2 s7 (by omega)
  omega
 have hcw := fun w2 (h2 : Below w.heap.size w w2) => countS work ⟨A9, c9⟩ n3 (by omega) s8 w2 (k8.all (keeps_below h2))
 obtain ⟨n4, hn4⟩ : ∃ n, n = cntL (nodesS work) n3 := ⟨_, rfl⟩
 rw [← hn4] at hcw
 have hn4b : n4 ≤ 3000000000 := by
  have := cntL_le (nodesS work) n3 s8 (by omega)
  omega
 have hcr := fun w2 (h2 : Below w.heap.size w w2) => countS recov ⟨A10, c10⟩ n4 (by omega) s9 w2 (k9.all (keeps_below h2))
 obtain ⟨n5, hn5⟩ : ∃ n, n = cntL (nodesS recov) n4 := ⟨_, rfl⟩
 rw [← hn5] at hcr
 have hn5b : n5 ≤ 4000000000 := by
  have := cntL_le (nodesS recov) n4 s9 (by omega)
  omega
 have hci := fun w2 (h2 : Below w.heap.size w w2) => countE (Ex.mk ⟨ik, io, iv, iwd, inn⟩ (⟨iA, ic⟩ : Loc) is) n5 (by omega) w2 (k10.below h2)
 have hNe : capE n5 (Ex.mk ⟨ik, io, iv, iwd, inn⟩ (⟨iA, ic⟩ : Loc) is).sz = N := by rw [hN, hn5, hn4, hn3, hn2, hn1, hn0]; rfl
 rw [hNe] at hci
 simp only [show aggP (Pg.mk bl wd ⟨A2, c2⟩ ins ⟨A3, c3⟩ gh ⟨A4, c4⟩ va ⟨A5, c5⟩ ar (Ex.mk ⟨rk, ro, rv, rwd, rn⟩ (⟨rA, rc⟩ : Loc) rs) ⟨A7, c7⟩ inits ⟨A8, c8⟩ procs ⟨A9, c9⟩ work ⟨A10, c10⟩ recov (Ex.mk ⟨ik, io, iv, iwd, inn⟩ (⟨iA, ic⟩ : Loc) is)) = .agg #[.int .i64 bl, .int .i64 wd, .slice A2 ins.length c2, .slice A3 gh.length c3, .slice A4 va.length c4, .slice A5 ar.length c5, .int .u8 rk, .int .u8 ro, .int .u32 rv, .int .i64 rwd, .string rn, .slice rA rs.length rc, .slice A7 inits.length c7, .slice A8 procs.length c8, .slice A9 work.length c9, .slice A10 recov.length c10, .int .u8 ik, .int .u8 io, .int .u32 iv, .int .i64 iwd, .string inn, .slice iA is.length ic] from rfl]
 simp only [aggX, Ex.cells, eT] at hc0 hci
 have e0 : (ins.length : Int) + gh.length + va.length + ar.length + 1 = (n0 : Int) := by omega
 clear hN hNe
 replace hn0 := Lib.hid hn0
 replace hn1 := Lib.hid hn1
 replace hn2 := Lib.hid hn2
 replace hn3 := Lib.hid hn3
 replace hn4 := Lib.hid hn4
 replace hn5 := Lib.hid hn5
 replace hc0 := Lib.hid hc0
 replace hcw := Lib.hid hcw
 replace hcr := Lib.hid hcr
 replace hci := Lib.hid hci
 replace hi := Lib.hid hi
 replace hpr := Lib.hid hpr
 replace s7 := Lib.hid s7
 replace k6 := Lib.hid k6
 replace k7 := Lib.hid k7
 replace e0 := Lib.hid e0
 have hB0 := (Below.refl _ w).alloc (Nat.le_refl _) (.cells #[.int .i64 bl, .int .i64 wd, .slice A2 ins.length c2, .slice A3 gh.length c3, .slice A4 va.length c4, .slice A5 ar.length c5, .int .u8 rk, .int .u8 ro, .int .u32 rv, .int .i64 rwd, .string rn, .slice rA rs.length rc, .slice A7 inits.length c7, .slice A8 procs.length c8, .slice A9 work.length c9, .slice A10 recov.length c10, .int .u8 ik, .int .u8 io, .int .u32 iv, .int .i64 iwd, .string inn, .slice iA is.length ic] 35)
 have hb0 := Blk.new w 35 #[.int .i64 bl, .int .i64 wd, .slice A2 ins.length c2, .slice A3 gh.length c3, .slice A4 va.length c4, .slice A5 ar.length c5, .int .u8 rk, .int .u8 ro, .int .u32 rv, .int .i64 rwd, .string rn, .slice rA rs.length rc, .slice A7 inits.length c7, .slice A8 procs.length c8, .slice A9 work.length c9, .slice A10 recov.length c10, .int .u8 ik, .int .u8 io, .int .u32 iv, .int .i64 iwd, .string inn, .slice iA is.length ic]
 go_enter Tryz.func91, Tryz.ntmps91
 go_wp2_with fail
 rw [e0.out]
 refine (hc0.out _ hB0).mono ?_
 rintro e w1 ⟨rfl, hB1⟩
 have hB01 := below_and hB0 hB1
 have hb1 := hb0.below hB1 hb0.lt
 clear hb0 hB0
 have hlw := hb1.lt
 have cP : w1.cell? ⟨w.heap.size, 12, none⟩ = some (.slice A7 inits.length c7) := hb1.cell 12
 obtain ⟨ni, hni⟩ : ∃ n, n = inits.length := ⟨_, rfl⟩
 rw [← hni] at cP
 have hnib : ni ≤ 20000 := by omega
 replace hni := Lib.hid hni
 go_wp2_with fail
 clear cP
 go_loopw [3, 30] (fun nn i wr => ∃ k : Nat, i = .int .i64 k ∧ nn = .int .i64 (cntI (inits.take k) n1 : Nat) ∧ k ≤ ni ∧ Below w1.heap.size w1 wr) (fun _ i _ => ni - (intOf i).toNat)
 case atStart => exact ⟨0, rfl, rfl, Nat.zero_le _, Below.refl _ _⟩
 case round =>
  obtain ⟨k, rfl, rfl, hk, hB⟩ := hrel
  have k0 : 0 ≤ (k : Int) := by omega
  by_cases hlt : k < ni
  ·have hx : inits[k]? = some (inits[k]'(by have := hni.out; omega)) := List.getElem?_eq_getElem (by have := hni.out; omega)
   generalize inits[k]'(by have := hni.out; omega) = x at hx
   have hBw := below_and hB01 hB
   obtain ⟨ad, hA, _, hxok, hcx⟩ := Lin.ok.at (Lin.ok.keep (keeps_below hBw) k6.out (fun _ _ => trivial)) hx
   have hnext := cntI_take hx n1
   have hcur := hi.out k
   obtain ⟨m, hm⟩ : ∃ m, m = cntI (inits.take k) n1 := ⟨_, rfl⟩
   rw [← hm] at hnext hcur ⊢
   have hcall := fun w2 (hB2 : Below wr.heap.size wr w2) => countE x.val (m + 1) (by omega) w2 (hxok.below hB2)
   rw [← hnext] at hcall
   replace hm := Lib.hid hm
   replace hnext := Lib.hid hnext
   replace hx := Lib.hid hx
   obtain ⟨xb, ⟨⟨xk, xo, xv, xw, xn⟩, ⟨xA, xc⟩, xs⟩⟩ := x
   obtain ⟨d0, d1, d2, d3, d4, d5, d6⟩ := CellsAt.c7 hcx
   simp only [aggX, Ex.cells, eT] at d0 d1 d2 d3 d4 d5 d6 hcall
   replace hcall := Lib.hid hcall
   dsimp only at hA
   subst hA
   have k1 : (k : Int) < (ni : Int) := by omega
   have hab := cell_lt d0
   have hBx := (Below.refl _ wr).alloc (Nat.le_refl _) (.cells #[.int .i64 xb, .int .u8 xk, .int .u8 xo, .int .u32 xv, .int .i64 xw, .string xn, .slice xA xs.length xc] 62)
   go_wp2_with fail
   refine (hcall.out _ hBx).mono ?_
   rintro e w2 ⟨rfl, hB2⟩
   have hB3 := below_and hBx hB2
   go_wp2_with fail
   go_roundw
   case rel => exact ⟨k + 1, by go_num, rfl, by omega, below_and hB hB3⟩
   case measure => simp [intOf]; omega
  ·obtain rfl : k = ni := by omega
   have hBw := below_and hB01 hB
   have hkn : cntI (inits.take k) n1 = n2 := by rw [hni.out, List.take_length, hn2.out]
   rw [hkn]
   have hb2 := hb1.below hB hlw
   have hlw2 := hb2.lt
   have cP : wr.cell? ⟨w.heap.size, 13, none⟩ = some (.slice A8 procs.length c8) := hb2.cell 13
   obtain ⟨np, hnp⟩ : ∃ n, n = procs.length := ⟨_, rfl⟩
   rw [← hnp] at cP
   have hnpb : np ≤ 20000 := by omega
   replace hnp := Lib.hid hnp
   replace hkn := Lib.hid hkn
   clear hb1 hB hB1 hB01
   rename World => wv
   go_wp2_with fail
   clear cP
   go_loopw [3, 43] (fun nn i wr => ∃ k : Nat, i = .int .i64 k ∧ nn = .int .i64 (cntPr (procs.take k) n2 : Nat) ∧ k ≤ np ∧ Below wv.heap.size wv wr) (fun _ i _ => np - (intOf i).toNat)
   case atStart => exact ⟨0, rfl, rfl, Nat.zero_le _, Below.refl _ _⟩
   case round =>
    obtain ⟨k, rfl, rfl, hk, hB⟩ := hrel
    have k0 : 0 ≤ (k : Int) := by omega
    by_cases hlt : k < np
    ·have hx : procs[k]? = some (procs[k]'(by have := hnp.out; omega)) := List.getElem?_eq_getElem (by have := hnp.out; omega)
     generalize procs[k]'(by have := hnp.out; omega) = x at hx
     have hBx := below_and hBw hB
     obtain ⟨ad, hA, _, hxok, hcx⟩ := Lpr.ok.at (Lpr.ok.keep (keeps_below hBx) k7.out (fun _ _ => trivial)) hx
     have hnext := cntPr_take hx n2
     have hcur := hpr.out k
     have hsx := s7.out x (List.mem_of_getElem? hx)
     obtain ⟨m, hm⟩ : ∃ m, m = cntPr (procs.take k) n2 := ⟨_, rfl⟩
     rw [← hm] at hnext hcur ⊢
     have hcall := fun w2 (hB2 : Below wr.heap.size wr w2) => countS x.body x.lb (m + 1 + x.ps.length) (by omega) hsx.2 w2 (hxok.2.all (keeps_below hB2))
     rw [← hnext] at hcall
     replace hm := Lib.hid hm
     replace hnext := Lib.hid hnext
     replace hx := Lib.hid hx
     obtain ⟨xn, ⟨pA, pc⟩, ps, ⟨bA, bc⟩, body⟩ := x
     obtain ⟨d0, d1, d2⟩ := CellsAt.c3 hcx
     have hps := hsx.1
     clear hsx
     dsimp only at d0 d1 d2 hcall hps
     replace hcall := Lib.hid hcall
     dsimp only at hA
     subst hA
     have k1 : (k : Int) < (np : Int) := by omega
     have hab := cell_lt d0
     have hBx := (Below.refl _ wr).alloc (Nat.le_refl _) (.cells #[.string xn, .slice pA ps.length pc, .slice bA body.length bc] 64)
     go_wp2_with fail
     refine (hcall.out _ hBx).mono ?_
     rintro e w2 ⟨rfl, hB2⟩
     have hB3 := below_and hBx hB2
     go_wp2_with fail
     go_roundw
     case rel => exact ⟨k + 1, by go_num, rfl, by omega, below_and hB hB3⟩
     case measure => simp [intOf]; omega
    ·obtain rfl : k = np := by omega
     have hkp : cntPr (procs.take k) n2 = n3 := by rw [hnp.out, List.take_length, hn3.out]
     rw [hkp]
     have hb3 := hb2.below hB hlw2
     have hlw3 := hb3.lt
     have hBz := below_and hBw hB
     replace hkp := Lib.hid hkp
     clear hb2 hB hBw
     have hX1 : ∀ x : Ext wr, Calls Tryz.prog 85 #[.slice A9 work.length c9, .int .i64 (n3 : Nat)] x.w fun e w' => e = .returned (.int .i64 (n4 : Nat)) ∧ Below x.w.heap.size x.w w' := fun x => hcw.out x.w (below_and hBz x.below)
     have hX2 : ∀ x : Ext wr, Calls Tryz.prog 85 #[.slice A10 recov.length c10, .int .i64 (n4 : Nat)] x.w fun e w' => e = .returned (.int .i64 (n5 : Nat)) ∧ Below x.w.heap.size x.w w' := fun x => hcr.out x.w (below_and hBz x.below)
     have hX3 : ∀ x : Ext wr, Calls Tryz.prog 77 #[.agg #[.int .u8 ik, .int .u8 io, .int .u32 iv, .int .i64 iwd, .string inn, .slice iA is.length ic], .int .i64 (n5 : Nat)] x.w fun e w' => e = .returned (.int .i64 (N : Nat)) ∧ Below x.w.heap.size x.w w' := fun x => hci.out x.w (below_and hBz x.below)
     have hC := fun (x : Ext wr) => (hb3.below x.below hlw3)
     have hC14 : ∀ x : Ext wr, x.w.cell? ⟨w.heap.size, 14, none⟩ = some (.slice A9 work.length c9) := fun x => (hC x).cell 14
     have hC15 : ∀ x : Ext wr, x.w.cell? ⟨w.heap.size, 15, none⟩ = some (.slice A10 recov.length c10) := fun x => (hC x).cell 15
     have hC16 : ∀ x : Ext wr, x.w.cell? ⟨w.heap.size, 16, none⟩ = some (.int .u8 ik) := fun x => (hC x).cell 16
     have hC17 : ∀ x : Ext wr, x.w.cell? ⟨w.heap.size, 17, none⟩ = some (.int .u8 io) := fun x => (hC x).cell 17
     have hC18 : ∀ x : Ext wr, x.w.cell? ⟨w.heap.size, 18, none⟩ = some (.int .u32 iv) := fun x => (hC x).cell 18
     have hC19 : ∀ x : Ext wr, x.w.cell? ⟨w.heap.size, 19, none⟩ = some (.int .i64 iwd) := fun x => (hC x).cell 19
     have hC20 : ∀ x : Ext wr, x.w.cell? ⟨w.heap.size, 20, none⟩ = some (.string inn) := fun x => (hC x).cell 20
     have hC21 : ∀ x : Ext wr, x.w.cell? ⟨w.heap.size, 21, none⟩ = some (.slice iA is.length ic) := fun x => (hC x).cell 21
     clear hC hb3
     replace hX1 := Lib.hid hX1
     replace hX2 := Lib.hid hX2
     replace hX3 := Lib.hid hX3
     go_wp2_with fail
     refine wp_region_grown (by kernel_rfl) (by kernel_rfl) (by kernel_rfl) ?_
     repeat (go_big_quiet_step (first
      | (go_at_call 85; with_reducible exact grown_of (hX1.out _))
      | (go_at_call 85; with_reducible exact grown_of (hX2.out _))
      | (go_at_call 77; with_reducible exact grown_of (hX3.out _))))
     refine wpQuiet_nil ?_
     rintro _ ⟨x, rfl⟩
     go_wp2
     go_ret
     exact ⟨rfl, below_and hBz x.below⟩
theorem light_any (n : Nat) (w : World) : Calls Tryz.prog 78 #[.int .i64 n] w fun e w' => e = .returned (.bool (decide (n ≤ 20000))) ∧ w = w' := by
 by_cases h : n ≤ 20000
 ·rw [decide_eq_true h]; exact light_yes _ (by omega) _
 ·rw [decide_eq_false h]; exact light_no _ (by omega) _
theorem lightP (p : Pg Loc) : decide (cntP p ≤ 20000) = decide (p.sz ≤ 20000) := by
 by_cases h : p.sz ≤ 20000
 ·rw [cntP_exact h]
 ·have := cntP_more (p := p) (by omega)
  rw [decide_eq_false h, decide_eq_false (by omega)]
theorem Pg.cells_len (E : Enc) (p : Pg Loc) : (p.cells E).toArray.size = 22 := by
 simp [Pg.cells, Ex.cells_len]
theorem lightP_ok (p : Pg Loc) (w : World) (hok : p.ok eT w) (hs : p.Slim) : Calls Tryz.prog 20 #[aggP p] w fun r w' => r = .returned (.bool (decide (p.sz ≤ 20000))) ∧ Below w.heap.size w w' := by
 have hc := fun w2 (hB2 : Below w.heap.size w w2) => count_ok p w2 (hok.below hB2) hs
 have hl : ∀ w', Calls Tryz.prog 78 #[.int .i64 (cntP p : Nat)] w' fun r w'' => r = .returned (.bool (decide (p.sz ≤ 20000))) ∧ w' = w'' := by rw [← lightP]; exact light_any (cntP p)
 obtain ⟨c, hcc⟩ : ∃ c, c = cntP p := ⟨_, rfl⟩
 rw [← hcc] at hc hl
 obtain ⟨cs, hcs⟩ : ∃ cs, cs = (p.cells eT).toArray := ⟨_, rfl⟩
 have hsz : cs.size = 22 := by rw [hcs]; exact Pg.cells_len eT p
 unfold aggP at hc ⊢
 rw [← hcs] at hc ⊢
 clear hcs
 replace hc := Lib.hid hc
 replace hl := Lib.hid hl
 replace hcc := Lib.hid hcc
 try replace hn := Lib.hid hn
 have hB0 := (Below.refl _ w).alloc (Nat.le_refl _) (.cells cs 35)
 have hb0 := Blk.new w 35 cs
 go_enter Tryz.func20, Tryz.ntmps20
 go_upto_region 1 with (fail)
 refine wp_region_lit ?_
 refine wpList_load_row rfl 35 (.tmp 1) rfl w.heap.size rfl 35 cs (0, 0) _ hb0 Tryz.underlying35 rfl (by rw [hsz]; kernel_rfl) ?_
 go_wp2_with fail
 refine (hc.out _ hB0).mono ?_
 rintro e w1 ⟨rfl, hB1⟩
 have hB01 := below_and hB0 hB1
 go_wp2_with (go_at_call 78; with_reducible refine (hl.out _).mono ?_; rintro e w' ⟨rfl, rfl⟩)
 go_ret
 exact ⟨rfl, hB01⟩
theorem sizeP_ok (p : Pg Loc) (w : World) (hok : p.ok eT w) (hs : p.Slim) (n : Nat) (hn : n = if p.sz ≤ 20000 then p.sz else 0) : Calls Tryz.prog 21 #[aggP p] w fun r w' => r = .returned (.int .i64 (n : Nat)) ∧ Below w.heap.size w w' := by
 have hc := fun w2 (hB2 : Below w.heap.size w w2) => count_ok p w2 (hok.below hB2) hs
 have hl : ∀ w', Calls Tryz.prog 76 #[.int .i64 (cntP p : Nat)] w' fun r w'' => r = .returned (.int .i64 (n : Nat)) ∧ w' = w'' := fun w' => by
  by_cases h : p.sz ≤ 20000
  ·have h1 : cntP p = n := by rw [hn, if_pos h, cntP_exact h]
   rw [h1]
   exact sized_yes _ (by rw [hn, if_pos h]; omega) _
  ·have h1 := cntP_more (p := p) (by omega)
   rw [hn, if_neg h]
   exact sized_no _ (by omega) _
 obtain ⟨c, hcc⟩ : ∃ c, c = cntP p := ⟨_, rfl⟩
 rw [← hcc] at hc hl
 obtain ⟨cs, hcs⟩ : ∃ cs, cs = (p.cells eT).toArray := ⟨_, rfl⟩
 have hsz : cs.size = 22 := by rw [hcs]; exact Pg.cells_len eT p
 unfold aggP at hc ⊢
 rw [← hcs] at hc ⊢
 clear hcs
 replace hc := Lib.hid hc
 replace hl := Lib.hid hl
 replace hcc := Lib.hid hcc
 try replace hn := Lib.hid hn
 have hB0 := (Below.refl _ w).alloc (Nat.le_refl _) (.cells cs 35)
 have hb0 := Blk.new w 35 cs
 go_enter Tryz.func21, Tryz.ntmps21
 go_upto_region 1 with (fail)
 refine wp_region_lit ?_
 refine wpList_load_row rfl 35 (.tmp 1) rfl w.heap.size rfl 35 cs (0, 0) _ hb0 Tryz.underlying35 rfl (by rw [hsz]; kernel_rfl) ?_
 go_wp2_with fail
 refine (hc.out _ hB0).mono ?_
 rintro e w1 ⟨rfl, hB1⟩
 have hB01 := below_and hB0 hB1
 go_wp2_with (go_at_call 76; with_reducible refine (hl.out _).mono ?_; rintro e w' ⟨rfl, rfl⟩)
 go_ret
 exact ⟨rfl, hB01⟩
end Go.Proofs.YtnldbplphgfpeaaGreat
