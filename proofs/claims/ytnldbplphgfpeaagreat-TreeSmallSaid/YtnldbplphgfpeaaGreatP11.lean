/- Lemmas for salvor/salvorlaw29.TreeSmall (part 11); no condition. -/
import Derived.Test.YtnldbplphgfpeaaGreatP10
namespace Go.Proofs.YtnldbplphgfpeaaGreat
open Go Go.RowKit Go.Shelf
set_option linter.unusedVariables false
set_option linter.unusedSimpArgs false
set_option maxHeartbeats 8000000
theorem blk_setCells {b t : Nat} : ∀ (vs old pre post : List Value) (o : Nat) (w : World), Blk w b t (pre ++ (old ++ post)).toArray → pre.length = o → old.length = vs.length → Blk (w.setCells b o vs) b t (pre ++ (vs ++ post)).toArray
 | [], old, pre, post, o, w, h, _, hl => by
  obtain rfl : old = [] := List.eq_nil_of_length_eq_zero hl
  exact h
 | v :: vs, [], pre, post, o, w, h, _, hl => by simp at hl
 | v :: vs, x :: old, pre, post, o, w, h, hp, hl => by
  rw [World.setCells]
  have h1 := h.set_ o v
  have h2 := blk_setCells vs old (pre ++ [v]) post (o + 1) (w.setCell ⟨b, o, none⟩ v) (by
   have e : (pre ++ (x :: old ++ post)).toArray.setIfInBounds o v = (pre ++ [v] ++ (old ++ post)).toArray := by
    subst hp
    simp
   rw [← e]
   exact h1) (by simp [hp]) (by simpa using hl)
  simpa using h2
theorem only_setCells {b : Nat} : ∀ (vs : List Value) (o : Nat) (w : World), Only [b] w (w.setCells b o vs)
 | [], _, w => Only.refl _ w
 | v :: vs, o, w => by
  rw [World.setCells]
  exact ((Only.refl [b] w).setCell (.inl (by simp)) v).trans (only_setCells vs (o + 1) _)
theorem there_blk_at {w : World} {g t : Nat} {cs : Array Value} (h : Blk w g t cs) {o n : Nat} (hn : o + n ≤ cs.size) : w.there g o n := fun j hj => ⟨by rw [h.cell (o + j), Array.getElem?_eq_getElem (by omega)]; rfl, h.frozen _⟩
theorem own_seven {w : World} {base e g n c i : Nat} {pre post : List Value} {b o0 o1 o2 o3 o4 o5 : Value} (h : w.ownsRow base e 7 (.slice (some ⟨g, 0, none⟩) n c) n (pre ++ ([b, o0, o1, o2, o3, o4, o5] ++ post))) (hi : pre.length = i) :
  w.there g (i + 1) 6 ∧ ∀ u0 u1 u2 u3 u4 u5 : Value, ((((((w.setCell ⟨g, i + 1, none⟩ u0).setCell ⟨g, i + 1 + 1, none⟩ u1).setCell ⟨g, i + 1 + 2, none⟩ u2).setCell ⟨g, i + 1 + 3, none⟩ u3).setCell ⟨g, i + 1 + 4, none⟩ u4).setCell ⟨g, i + 1 + 5, none⟩ u5).ownsRow base e 7 (.slice (some ⟨g, 0, none⟩) n c) n (pre ++ ([b, u0, u1, u2, u3, u4, u5] ++ post)) := by
 refine ⟨fun j hj => ?_, fun u0 u1 u2 u3 u4 u5 => ?_⟩
 ·have : j = 0 ∨ j = 1 ∨ j = 2 ∨ j = 3 ∨ j = 4 ∨ j = 5 := by omega
  rcases this with rfl | rfl | rfl | rfl | rfl | rfl
  ·have := own_at h hi 1 rfl; exact ⟨by show (w.cell? ⟨g, i + 1, none⟩).isSome = true; rw [this.1]; rfl, this.2.1⟩
  ·have := own_at h hi 2 rfl; exact ⟨by show (w.cell? ⟨g, i + 2, none⟩).isSome = true; rw [this.1]; rfl, this.2.1⟩
  ·have := own_at h hi 3 rfl; exact ⟨by show (w.cell? ⟨g, i + 3, none⟩).isSome = true; rw [this.1]; rfl, this.2.1⟩
  ·have := own_at h hi 4 rfl; exact ⟨by show (w.cell? ⟨g, i + 4, none⟩).isSome = true; rw [this.1]; rfl, this.2.1⟩
  ·have := own_at h hi 5 rfl; exact ⟨by show (w.cell? ⟨g, i + 5, none⟩).isSome = true; rw [this.1]; rfl, this.2.1⟩
  ·have := own_at h hi 6 rfl; exact ⟨by show (w.cell? ⟨g, i + 6, none⟩).isSome = true; rw [this.1]; rfl, this.2.1⟩
 ·have h1 := own_put_at h hi 1 (by simp) u0
  have h2 := own_put_at h1 hi 2 (by simp) u1
  have h3 := own_put_at h2 hi 3 (by simp) u2
  have h4 := own_put_at h3 hi 4 (by simp) u3
  have h5 := own_put_at h4 hi 5 (by simp) u4
  exact own_put_at h5 hi 6 (by simp) u5
structure NIn (base : Nat) (ls : List (In Loc)) (lA : Option Addr) (lcap n k : Nat) (news : List (In Loc)) (W4 wr : World) : Prop where
 kn : k ≤ n
 len : news.length = k
 pl : news.map In.plain = (ls.take k).map In.plain
 row : wr.ownsRow base 62 7 (.slice lA n lcap) n (cellsI eT (news ++ ls.drop k))
 own : ownsI wr base news
 nd : (fpsI news).Nodup
 on : Only (Loc.mk lA lcap).fp W4 wr
 ge : ∀ b ∈ fpsI news, W4.heap.size ≤ b
structure NPr (base : Nat) (ls : List (Pr Loc)) (lA : Option Addr) (lcap n k : Nat) (news : List (Pr Loc)) (W4 wr : World) : Prop where
 kn : k ≤ n
 len : news.length = k
 pl : news.map Pr.plain = (ls.take k).map Pr.plain
 row : wr.ownsRow base 64 3 (.slice lA n lcap) n (cellsP (news ++ ls.drop k))
 own : ownsP wr base news
 nd : (fpsP news).Nodup
 on : Only (Loc.mk lA lcap).fp W4 wr
 ge : ∀ b ∈ fpsP news, W4.heap.size ≤ b
theorem Bun.addD {X Y : World → Prop} {bs cs : List Nat} {W : World} {g : Nat} (h : Bun g X bs W) (kY : Keep Y cs) (hY : Y W) (hn : cs.Nodup) (hd : ∀ b ∈ bs, b ∉ cs) (hg : ∀ b ∈ cs, g < b) :
  ∃ Z ds, Bun g Z ds W ∧ ds = bs ++ cs ∧ ∀ V, Z V → X V ∧ Y V :=
 ⟨_, _, ⟨h.k.and kY, ⟨h.h, hY⟩, List.nodup_append.2 ⟨h.nd, hn, fun a ha b hb e => hd a ha (by rw [e]; exact hb)⟩, fun b hb => by
  rcases List.mem_append.1 hb with hb | hb
  ·exact h.gt b hb
  ·exact hg b hb⟩, rfl, fun _ h => h⟩
theorem wp_store_six' {P : Program} {op : Oper} {a : Act} {w : World} {K : Act → World → Prop} {Q : Exit → Act → World → Prop} (i1 i2 i3 i4 i5 : Nat) (ty : TypeId) (x y : Operand) (ho : op.op = .store ty x y) (g i : Nat) (e1 : i1 = i + 1) (e2 : i2 = i + 2) (e3 : i3 = i + 3) (e4 : i4 = i + 4) (e5 : i5 = i + 5) (u0 u1 u2 u3 u4 u5 : Value)
  (hx : a.eval x = .pointer (some ⟨g, i, none⟩)) (hy : a.eval y = .agg #[u0, u1, u2, u3, u4, u5]) (ht : w.there g i 6) (hi : (P.info? ty).map (·.size) = some 6)
  (h1 : #[u0, u1, u2, u3, u4, u5].all (·.oneCell') = true)
  (h : K (a.put op.dst undef) ((((((w.setCell ⟨g, i, none⟩ u0).setCell ⟨g, i1, none⟩ u1).setCell ⟨g, i2, none⟩ u2).setCell ⟨g, i3, none⟩ u3).setCell ⟨g, i4, none⟩ u4).setCell ⟨g, i5, none⟩ u5)) : op.wp P a w K Q := by
 subst e1 e2 e3 e4 e5
 exact wp_store_six ty x y ho g i u0 u1 u2 u3 u4 u5 hx hy ht hi h1 h
theorem named_keep8 (e : Ex Loc) (w2 : World) (hok : e.ok eT w2) (hs : e.sz ≤ 20000) : Calls Tryz.prog 82 #[aggX e, .func (.func 83) #[] #[]] w2 fun r w' =>
  ∃ zk zo zv zw zn zA zc zs, r = .returned (.agg #[.int .u8 zk, .int .u8 zo, .int .u32 zv, .int .i64 zw, .string zn, .slice zA (zs : List (Ex Loc)).length zc]) ∧ (Ex.mk ⟨zk, zo, zv, zw, zn⟩ (⟨zA, zc⟩ : Loc) zs).plain = e.plain ∧ (Ex.mk ⟨zk, zo, zv, zw, zn⟩ ⟨zA, zc⟩ zs).own eT w' w2.heap.size ∧ (Ex.mk ⟨zk, zo, zv, zw, zn⟩ ⟨zA, zc⟩ zs).fp.Nodup ∧ Below w2.heap.size w2 w' :=
 (named_keep e w2 hok hs).mono fun r w' ⟨L, h1, h2, h3, h4, h5⟩ => by
  obtain ⟨⟨zk, zo, zv, zw, zn⟩, ⟨zA, zc⟩, zs⟩ := L
  rw [Ex.ren_id] at h2
  exact ⟨zk, zo, zv, zw, zn, zA, zc, zs, h1, h2, h3, h4, h5⟩
theorem namedS_keep' (ls : List (St Loc)) (lc : Loc) (w : World) (hok : Lst.ok eT w lc ls) (hs : szS ls ≤ 20000) :
  Calls Tryz.prog 88 #[.slice lc.A ls.length lc.c, .func (.func 83) #[] #[]] w fun r w' => ∃ (tA : Option Addr) (tc : Nat) (news : List (St Loc)), r = .returned (.slice tA ls.length tc) ∧ news.length = ls.length ∧ plainS news = plainS ls ∧ Lst.own eT w' w.heap.size ⟨tA, tc⟩ news ∧ (Lst.fp ⟨tA, tc⟩ news).Nodup ∧ Below w.heap.size w w' :=
 (namedS_keep ls lc w hok hs).mono fun r w' ⟨tA, tc, news, h1, h2, h3, h4⟩ => ⟨tA, tc, news, h1, h2, by rw [h3, renS_id], h4⟩
set_option maxRecDepth 100000 in
theorem copy_yes (p : Pg Loc) (w : World) (hok : p.ok eT w) (hs : p.sz ≤ 20000) : Calls Tryz.prog 23 #[aggP p] w fun r w' => ∃ L : Pg Loc, r = .returned (aggP L) ∧ L.plain = p.plain ∧ L.own w' w.heap.size ∧ L.fp.Nodup ∧ Below w.heap.size w w' := by
 have hlt := fun w2 (h2 : Below w.heap.size w w2) => lightP_ok p w2 (hok.below h2) (slim_of hs)
 rw [decide_eq_true hs] at hlt
 obtain ⟨bl, wd, ⟨A2, c2⟩, ins, ⟨A3, c3⟩, gh, ⟨A4, c4⟩, va, ⟨A5, c5⟩, ar, ⟨⟨rk, ro, rv, rwd, rn⟩, ⟨rA, rc⟩, rs⟩, ⟨A7, c7⟩, inits, ⟨A8, c8⟩, procs, ⟨A9, c9⟩, work, ⟨A10, c10⟩, recov, ⟨⟨ik, io, iv, iwd, inn⟩, ⟨iA, ic⟩, is⟩⟩ := p
 obtain ⟨k1, k2, k3, k4, k5, k6, k7, k8, k9, k10⟩ := hok
 dsimp only at k1 k2 k3 k4 k5 k6 k7 k8 k9 k10
 have hs' : ins.length + gh.length + va.length + ar.length + 1 + (Ex.mk ⟨rk, ro, rv, rwd, rn⟩ (⟨rA, rc⟩ : Loc) rs).sz + szI inits + szPr procs + szS work + szS recov + (Ex.mk ⟨ik, io, iv, iwd, inn⟩ (⟨iA, ic⟩ : Loc) is).sz ≤ 20000 := hs
 have hI := szI_len inits
 have hPp := szPr_len procs
 have hD1 := fun w2 (h2 : Below w.heap.size w w2) => cloneDecl ⟨A2, c2⟩ ins.length (cellsD ins) w2 (k1.all (keeps_below h2)) (cellsD_one _) (by omega)
 have hD2 := fun w2 (h2 : Below w.heap.size w w2) => cloneDecl ⟨A3, c3⟩ gh.length (cellsD gh) w2 (k2.all (keeps_below h2)) (cellsD_one _) (by omega)
 have hD3 := fun w2 (h2 : Below w.heap.size w w2) => cloneDecl ⟨A4, c4⟩ va.length (cellsD va) w2 (k3.all (keeps_below h2)) (cellsD_one _) (by omega)
 have hD4 := fun w2 (h2 : Below w.heap.size w w2) => cloneDecl ⟨A5, c5⟩ ar.length (cellsD ar) w2 (k4.all (keeps_below h2)) (cellsD_one _) (by omega)
 have hCI := fun w2 (h2 : Below w.heap.size w w2) => cloneInit ⟨A7, c7⟩ inits.length (cellsI eT inits) w2 (k6.1.all (keeps_below h2)) (cellsI_one _ _) (by omega)
 have hCP := fun w2 (h2 : Below w.heap.size w w2) => cloneProc ⟨A8, c8⟩ procs.length (cellsP procs) w2 (k7.1.all (keeps_below h2)) (cellsP_one _) (by omega)
 have hNR := fun w2 (h2 : Below w.heap.size w w2) => named_keep8 (Ex.mk ⟨rk, ro, rv, rwd, rn⟩ (⟨rA, rc⟩ : Loc) rs) w2 (k5.below h2) (by omega)
 have hNV := fun w2 (h2 : Below w.heap.size w w2) => named_keep8 (Ex.mk ⟨ik, io, iv, iwd, inn⟩ (⟨iA, ic⟩ : Loc) is) w2 (k10.below h2) (by omega)
 have hNW := fun w2 (h2 : Below w.heap.size w w2) => namedS_keep' work ⟨A9, c9⟩ w2 (k8.all (keeps_below h2)) (by omega)
 have hNX := fun w2 (h2 : Below w.heap.size w w2) => namedS_keep' recov ⟨A10, c10⟩ w2 (k9.all (keeps_below h2)) (by omega)
 have hNI : ∀ x ∈ inits, ∀ w2, Below w.heap.size w w2 → _ := fun x hx w2 (h2 : Below w.heap.size w w2) => named_keep8 x.val w2 ((k6.2 x hx).below h2) (by have := szI_mem hx; omega)
 have hNP : ∀ x ∈ procs, ∀ w2, Below w.heap.size w w2 → _ := fun x hx w2 (h2 : Below w.heap.size w w2) => cloneDecl x.lp x.ps.length (cellsD x.ps) w2 ((k7.2 x hx).1.all (keeps_below h2)) (cellsD_one _) (by have := szPr_mem hx; omega)
 have hNQ : ∀ x ∈ procs, ∀ w2, Below w.heap.size w w2 → _ := fun x hx w2 (h2 : Below w.heap.size w w2) => namedS_keep' x.body x.lb w2 ((k7.2 x hx).2.all (keeps_below h2)) (by have := szPr_mem hx; omega)
 have hni : inits.length ≤ 20000 := by omega
 have hnp : procs.length ≤ 20000 := by omega
 clear hs hs' k1 k2 k3 k4 k5 k6 k7 k8 k9 k10 hI hPp
 obtain ⟨PL, hPL⟩ : ∃ PL, PL = Pg.plain (Pg.mk bl wd ⟨A2, c2⟩ ins ⟨A3, c3⟩ gh ⟨A4, c4⟩ va ⟨A5, c5⟩ ar (Ex.mk ⟨rk, ro, rv, rwd, rn⟩ (⟨rA, rc⟩ : Loc) rs) ⟨A7, c7⟩ inits ⟨A8, c8⟩ procs ⟨A9, c9⟩ work ⟨A10, c10⟩ recov (Ex.mk ⟨ik, io, iv, iwd, inn⟩ (⟨iA, ic⟩ : Loc) is)) := ⟨_, rfl⟩
 rw [← hPL]
 replace hPL := Lib.hid hPL
 simp only [aggX, Ex.cells, eT] at hNR hNV
 simp only [show aggP (Pg.mk bl wd ⟨A2, c2⟩ ins ⟨A3, c3⟩ gh ⟨A4, c4⟩ va ⟨A5, c5⟩ ar (Ex.mk ⟨rk, ro, rv, rwd, rn⟩ (⟨rA, rc⟩ : Loc) rs) ⟨A7, c7⟩ inits ⟨A8, c8⟩ procs ⟨A9, c9⟩ work ⟨A10, c10⟩ recov (Ex.mk ⟨ik, io, iv, iwd, inn⟩ (⟨iA, ic⟩ : Loc) is)) = .agg #[.int .i64 bl, .int .i64 wd, .slice A2 ins.length c2, .slice A3 gh.length c3, .slice A4 va.length c4, .slice A5 ar.length c5, .int .u8 rk, .int .u8 ro, .int .u32 rv, .int .i64 rwd, .string rn, .slice rA rs.length rc, .slice A7 inits.length c7, .slice A8 procs.length c8, .slice A9 work.length c9, .slice A10 recov.length c10, .int .u8 ik, .int .u8 io, .int .u32 iv, .int .i64 iwd, .string inn, .slice iA is.length ic] from rfl] at hlt ⊢
 replace hlt := Lib.hid hlt
 replace hD1 := Lib.hid hD1
 replace hD2 := Lib.hid hD2
 replace hD3 := Lib.hid hD3
 replace hD4 := Lib.hid hD4
 replace hCI := Lib.hid hCI
 replace hCP := Lib.hid hCP
 replace hNR := Lib.hid hNR
 replace hNV := Lib.hid hNV
 replace hNW := Lib.hid hNW
 replace hNX := Lib.hid hNX
 replace hNI := Lib.hid hNI
 replace hNP := Lib.hid hNP
 replace hNQ := Lib.hid hNQ
 have hB0 : Below w.heap.size w ((w.alloc (.cells #[.int .i64 bl, .int .i64 wd, .slice A2 ins.length c2, .slice A3 gh.length c3, .slice A4 va.length c4, .slice A5 ar.length c5, .int .u8 rk, .int .u8 ro, .int .u32 rv, .int .i64 rwd, .string rn, .slice rA rs.length rc, .slice A7 inits.length c7, .slice A8 procs.length c8, .slice A9 work.length c9, .slice A10 recov.length c10, .int .u8 ik, .int .u8 io, .int .u32 iv, .int .i64 iwd, .string inn, .slice iA is.length ic] 35)).alloc (.cells #[.int .i64 0, .int .i64 0, .slice none 0 0, .slice none 0 0, .slice none 0 0, .slice none 0 0, .int .u8 0, .int .u8 0, .int .u32 0, .int .i64 0, .string ⟨#[]⟩, .slice none 0 0, .slice none 0 0, .slice none 0 0, .slice none 0 0, .slice none 0 0, .int .u8 0, .int .u8 0, .int .u32 0, .int .i64 0, .string ⟨#[]⟩, .slice none 0 0] 35)) := ((Below.refl _ _).alloc (Nat.le_refl _) _).alloc (by simp) _
 have hb0 := (Blk.new w 35 #[.int .i64 bl, .int .i64 wd, .slice A2 ins.length c2, .slice A3 gh.length c3, .slice A4 va.length c4, .slice A5 ar.length c5, .int .u8 rk, .int .u8 ro, .int .u32 rv, .int .i64 rwd, .string rn, .slice rA rs.length rc, .slice A7 inits.length c7, .slice A8 procs.length c8, .slice A9 work.length c9, .slice A10 recov.length c10, .int .u8 ik, .int .u8 io, .int .u32 iv, .int .i64 iwd, .string inn, .slice iA is.length ic]).alloc (.cells #[.int .i64 0, .int .i64 0, .slice none 0 0, .slice none 0 0, .slice none 0 0, .slice none 0 0, .int .u8 0, .int .u8 0, .int .u32 0, .int .i64 0, .string ⟨#[]⟩, .slice none 0 0, .slice none 0 0, .slice none 0 0, .slice none 0 0, .slice none 0 0, .int .u8 0, .int .u8 0, .int .u32 0, .int .i64 0, .string ⟨#[]⟩, .slice none 0 0] 35)
 have hr0 := Blk.new (w.alloc (.cells #[.int .i64 bl, .int .i64 wd, .slice A2 ins.length c2, .slice A3 gh.length c3, .slice A4 va.length c4, .slice A5 ar.length c5, .int .u8 rk, .int .u8 ro, .int .u32 rv, .int .i64 rwd, .string rn, .slice rA rs.length rc, .slice A7 inits.length c7, .slice A8 procs.length c8, .slice A9 work.length c9, .slice A10 recov.length c10, .int .u8 ik, .int .u8 io, .int .u32 iv, .int .i64 iwd, .string inn, .slice iA is.length ic] 35)) 35 #[.int .i64 0, .int .i64 0, .slice none 0 0, .slice none 0 0, .slice none 0 0, .slice none 0 0, .int .u8 0, .int .u8 0, .int .u32 0, .int .i64 0, .string ⟨#[]⟩, .slice none 0 0, .slice none 0 0, .slice none 0 0, .slice none 0 0, .slice none 0 0, .int .u8 0, .int .u8 0, .int .u32 0, .int .i64 0, .string ⟨#[]⟩, .slice none 0 0]
 rw [World.size_alloc] at hr0
 go_enter Tryz.func23, Tryz.ntmps23
 go_upto_region 1 with (fail)
 generalize (w.alloc (.cells #[.int .i64 bl, .int .i64 wd, .slice A2 ins.length c2, .slice A3 gh.length c3, .slice A4 va.length c4, .slice A5 ar.length c5, .int .u8 rk, .int .u8 ro, .int .u32 rv, .int .i64 rwd, .string rn, .slice rA rs.length rc, .slice A7 inits.length c7, .slice A8 procs.length c8, .slice A9 work.length c9, .slice A10 recov.length c10, .int .u8 ik, .int .u8 io, .int .u32 iv, .int .i64 iwd, .string inn, .slice iA is.length ic] 35)).alloc (.cells #[.int .i64 0, .int .i64 0, .slice none 0 0, .slice none 0 0, .slice none 0 0, .slice none 0 0, .int .u8 0, .int .u8 0, .int .u32 0, .int .i64 0, .string ⟨#[]⟩, .slice none 0 0, .slice none 0 0, .slice none 0 0, .slice none 0 0, .slice none 0 0, .int .u8 0, .int .u8 0, .int .u32 0, .int .i64 0, .string ⟨#[]⟩, .slice none 0 0] 35) = W0 at *
 have hX0 : Bun w.heap.size (fun W => Blk W (w.heap.size + 1) 35 #[.int .i64 0, .int .i64 0, .slice none 0 0, .slice none 0 0, .slice none 0 0, .slice none 0 0, .int .u8 0, .int .u8 0, .int .u32 0, .int .i64 0, .string ⟨#[]⟩, .slice none 0 0, .slice none 0 0, .slice none 0 0, .slice none 0 0, .slice none 0 0, .int .u8 0, .int .u8 0, .int .u32 0, .int .i64 0, .string ⟨#[]⟩, .slice none 0 0]) [w.heap.size + 1] W0 := ⟨keep_blk _ _ _, hr0, by simp, by simp⟩
 clear hr0
 refine wp_region_lit ?_
 refine wpList_load_rowW 35 (.tmp 1) rfl (by rfl) w.heap.size rfl 35 #[.int .i64 bl, .int .i64 wd, .slice A2 ins.length c2, .slice A3 gh.length c3, .slice A4 va.length c4, .slice A5 ar.length c5, .int .u8 rk, .int .u8 ro, .int .u32 rv, .int .i64 rwd, .string rn, .slice rA rs.length rc, .slice A7 inits.length c7, .slice A8 procs.length c8, .slice A9 work.length c9, .slice A10 recov.length c10, .int .u8 ik, .int .u8 io, .int .u32 iv, .int .i64 iwd, .string inn, .slice iA is.length ic] (0, 0) _ hb0 Tryz.underlying35 rfl (by kernel_rfl) ?_
 go_wp2_with fail
 refine (hlt.out _ hB0).mono ?_
 rintro e W1 ⟨rfl, hB01⟩
 have hB1 := below_and hB0 hB01
 have hb1 := hb0.below hB01 hb0.lt
 have hX1 := hX0.new hB01
 clear hB0 hb0 hX0 hlt
 go_upto_region 3 with (fail)
 clear hB01
 obtain ⟨S, hSi, hSe⟩ : ∃ S : World → Prop, (∀ W, (W.cell? ⟨w.heap.size, 2, none⟩ = some (.slice A2 ins.length c2) ∧ W.cell? ⟨w.heap.size, 3, none⟩ = some (.slice A3 gh.length c3) ∧ W.cell? ⟨w.heap.size, 4, none⟩ = some (.slice A4 va.length c4) ∧ W.cell? ⟨w.heap.size, 5, none⟩ = some (.slice A5 ar.length c5)) → S W) ∧ (∀ W, S W → (W.cell? ⟨w.heap.size, 2, none⟩ = some (.slice A2 ins.length c2) ∧ W.cell? ⟨w.heap.size, 3, none⟩ = some (.slice A3 gh.length c3) ∧ W.cell? ⟨w.heap.size, 4, none⟩ = some (.slice A4 va.length c4) ∧ W.cell? ⟨w.heap.size, 5, none⟩ = some (.slice A5 ar.length c5))) := ⟨fun W => W.cell? ⟨w.heap.size, 2, none⟩ = some (.slice A2 ins.length c2) ∧ W.cell? ⟨w.heap.size, 3, none⟩ = some (.slice A3 gh.length c3) ∧ W.cell? ⟨w.heap.size, 4, none⟩ = some (.slice A4 va.length c4) ∧ W.cell? ⟨w.heap.size, 5, none⟩ = some (.slice A5 ar.length c5), fun _ h => h, fun _ h => h⟩
 have hS : S W1.drew := hSi _ ⟨hb1.cell 2, hb1.cell 3, hb1.cell 4, hb1.cell 5⟩
 replace hSi := Lib.hid hSi
 replace hSe := Lib.hid hSe
 refine wp_region_T (S := S) (St := [13, 15, 17, 19]) (by kernel_rfl) ?_
 change wpAnyT _ _ _ _ _ _ _ _ _ (World.drew _)
 refine pureT 0 (v := ?_) rfl (by kernel_rfl) (by kernel_rfl) (by kernel_rfl) (by kernel_rfl) (fun _ _ _ h => h) (by rfl) (fun _ => hS) ?_ ?_
 rotate_left
 ·(intro wz; go_simp; try with_reducible rfl)
 try simp only [Act.put, List.setIfInBounds_toArray, List.set_cons_zero, List.set_cons_succ]
 refine pureT 3 (v := ?_) rfl (by kernel_rfl) (by kernel_rfl) (by kernel_rfl) (by kernel_rfl) (fun _ _ _ h => h) (by rfl) (fun _ => hS) ?_ ?_
 rotate_left
 ·(intro wz; go_simp; try with_reducible rfl)
 try simp only [Act.put, List.setIfInBounds_toArray, List.set_cons_zero, List.set_cons_succ]
 refine pureT 6 (v := ?_) rfl (by kernel_rfl) (by kernel_rfl) (by kernel_rfl) (by kernel_rfl) (fun _ _ _ h => h) (by rfl) (fun _ => hS) ?_ ?_
 rotate_left
 ·(intro wz; go_simp; try with_reducible rfl)
 try simp only [Act.put, List.setIfInBounds_toArray, List.set_cons_zero, List.set_cons_succ]
 refine pureT 9 (v := ?_) rfl (by kernel_rfl) (by kernel_rfl) (by kernel_rfl) (by kernel_rfl) (fun _ _ _ h => h) (by rfl) (fun _ => hS) ?_ ?_
 rotate_left
 ·(intro wz; go_simp; try with_reducible rfl)
 try simp only [Act.put, List.setIfInBounds_toArray, List.set_cons_zero, List.set_cons_succ]
 refine takeT 1 (v := .slice A2 ins.length c2) rfl (by kernel_rfl) (by kernel_rfl) (by kernel_rfl) (by kernel_rfl) (fun _ _ _ h => h) (by rfl) hS ?_ ?_
 ·(intro wz hSw; obtain ⟨z0, z1, z2, z3⟩ := hSe.out _ hSw; go_simp)
 try simp only [Act.put, List.setIfInBounds_toArray, List.set_cons_zero, List.set_cons_succ]
 refine takeT 4 (v := .slice A3 gh.length c3) rfl (by kernel_rfl) (by kernel_rfl) (by kernel_rfl) (by kernel_rfl) (fun _ _ _ h => h) (by rfl) hS ?_ ?_
 ·(intro wz hSw; obtain ⟨z0, z1, z2, z3⟩ := hSe.out _ hSw; go_simp)
 try simp only [Act.put, List.setIfInBounds_toArray, List.set_cons_zero, List.set_cons_succ]
 refine takeT 7 (v := .slice A4 va.length c4) rfl (by kernel_rfl) (by kernel_rfl) (by kernel_rfl) (by kernel_rfl) (fun _ _ _ h => h) (by rfl) hS ?_ ?_
 ·(intro wz hSw; obtain ⟨z0, z1, z2, z3⟩ := hSe.out _ hSw; go_simp)
 try simp only [Act.put, List.setIfInBounds_toArray, List.set_cons_zero, List.set_cons_succ]
 refine takeT 10 (v := .slice A5 ar.length c5) rfl (by kernel_rfl) (by kernel_rfl) (by kernel_rfl) (by kernel_rfl) (fun _ _ _ h => h) (by rfl) hS ?_ ?_
 ·(intro wz hSw; obtain ⟨z0, z1, z2, z3⟩ := hSe.out _ hSw; go_simp)
 try simp only [Act.put, List.setIfInBounds_toArray, List.set_cons_zero, List.set_cons_succ]
 refine callT 2 rfl (by kernel_rfl) (fun K hK => ?_)
 go_simp
 go_wp2_with (go_at_call 97; refine (hD1.out W1.drew hB1.drew).mono ?_; rintro e V2 ⟨⟨B2, d2⟩, rfl, hR2, hU⟩)
 replace hU := below_undrew hU
 have hBV2 := below_and hB1 hU
 have hbV2 := hb1.below hU hb1.lt
 have hR2a : Ldc.own V2 W1.heap.size ⟨B2, d2⟩ ins := hR2
 obtain ⟨X2, bs2, hX2, hbs2, ho2⟩ := hX1.add hU (keep_ldc w.heap.size _ _) (hR2a.base_le hB1.size) (Loc.fp_nodup _) (fun b hb => (hR2a.ge b hb).1) hb1.lt
 replace hbs2 := Lib.hid hbs2
 replace ho2 := Lib.hid ho2
 clear hR2 hR2a hU
 refine hK.out _ _ (hSi.out _ ⟨hbV2.cell 2, hbV2.cell 3, hbV2.cell 4, hbV2.cell 5⟩) (fun hSn => ?_)
 clear hK K hS
 have hS := hSn
 clear hSn
 refine pureT 12 (v := ?_) rfl (by kernel_rfl) (by kernel_rfl) (by kernel_rfl) (by kernel_rfl) (fun _ _ _ h => h) (by rfl) (fun _ => hS) ?_ ?_
 rotate_left
 ·(intro wz; go_simp; try with_reducible rfl)
 try simp only [Act.put, List.setIfInBounds_toArray, List.set_cons_zero, List.set_cons_succ]
 refine callT 5 rfl (by kernel_rfl) (fun K hK => ?_)
 go_simp
 go_wp2_with (go_at_call 97; refine (hD2.out V2 hBV2).mono ?_; rintro e V3 ⟨⟨B3, d3⟩, rfl, hR3, hU⟩)
 have hBV3 := below_and hBV2 hU
 have hbV3 := hbV2.below hU hbV2.lt
 have hR3a : Ldc.own V3 V2.heap.size ⟨B3, d3⟩ gh := hR3
 obtain ⟨X3, bs3, hX3, hbs3, ho3⟩ := hX2.add hU (keep_ldc w.heap.size _ _) (hR3a.base_le hBV2.size) (Loc.fp_nodup _) (fun b hb => (hR3a.ge b hb).1) hbV2.lt
 replace hbs3 := Lib.hid hbs3
 replace ho3 := Lib.hid ho3
 clear hR3 hR3a hU
 refine hK.out _ _ (hSi.out _ ⟨hbV3.cell 2, hbV3.cell 3, hbV3.cell 4, hbV3.cell 5⟩) (fun hSn => ?_)
 clear hK K hS
 have hS := hSn
 clear hSn
 refine callT 8 rfl (by kernel_rfl) (fun K hK => ?_)
 go_simp
 go_wp2_with (go_at_call 97; refine (hD3.out V3 hBV3).mono ?_; rintro e V4 ⟨⟨B4, d4⟩, rfl, hR4, hU⟩)
 have hBV4 := below_and hBV3 hU
 have hbV4 := hbV3.below hU hbV3.lt
 have hR4a : Ldc.own V4 V3.heap.size ⟨B4, d4⟩ va := hR4
 obtain ⟨X4, bs4, hX4, hbs4, ho4⟩ := hX3.add hU (keep_ldc w.heap.size _ _) (hR4a.base_le hBV3.size) (Loc.fp_nodup _) (fun b hb => (hR4a.ge b hb).1) hbV3.lt
 replace hbs4 := Lib.hid hbs4
 replace ho4 := Lib.hid ho4
 clear hR4 hR4a hU
 refine hK.out _ _ (hSi.out _ ⟨hbV4.cell 2, hbV4.cell 3, hbV4.cell 4, hbV4.cell 5⟩) (fun hSn => ?_)
 clear hK K hS
 have hS := hSn
 clear hSn
 refine callT 11 rfl (by kernel_rfl) (fun K hK => ?_)
 go_simp
 go_wp2_with (go_at_call 97; refine (hD4.out V4 hBV4).mono ?_; rintro e V5 ⟨⟨B5, d5⟩, rfl, hR5, hU⟩)
 have hBV5 := below_and hBV4 hU
 have hbV5 := hbV4.below hU hbV4.lt
 have hR5a : Ldc.own V5 V4.heap.size ⟨B5, d5⟩ ar := hR5
 obtain ⟨X5, bs5, hX5, hbs5, ho5⟩ := hX4.add hU (keep_ldc w.heap.size _ _) (hR5a.base_le hBV4.size) (Loc.fp_nodup _) (fun b hb => (hR5a.ge b hb).1) hbV4.lt
 replace hbs5 := Lib.hid hbs5
 replace ho5 := Lib.hid ho5
 clear hR5 hR5a hU
 refine hK.out _ _ (hSi.out _ ⟨hbV5.cell 2, hbV5.cell 3, hbV5.cell 4, hbV5.cell 5⟩) (fun hSn => ?_)
 clear hK K hS
 have hS := hSn
 clear hSn
 refine storeT 13 rfl (by kernel_rfl) (by kernel_rfl) (fun K hK => ?_)
 have g2 := hbV5.cell 2
 have f2 := hbV5.frozen 2
 have l2 := hbV5.lt
 have hs2 := hbV5.set_ 2 (.slice B2 ins.length d2)
 simp only [List.setIfInBounds_toArray, List.set_cons_zero, List.set_cons_succ] at hs2
 go_simp
 go_wp2_with fail
 clear g2 f2 l2
 refine hK.out _ _ ?_
 clear hK K
 refine pureT 14 (v := ?_) rfl (by kernel_rfl) (by kernel_rfl) (by kernel_rfl) (by kernel_rfl) (fun _ _ _ h => h) (by rfl) (nomore (by kernel_rfl)) ?_ ?_
 rotate_left
 ·(intro wz; go_simp; try with_reducible rfl)
 try simp only [Act.put, List.setIfInBounds_toArray, List.set_cons_zero, List.set_cons_succ]
 refine storeT 15 rfl (by kernel_rfl) (by kernel_rfl) (fun K hK => ?_)
 have g3 := hs2.cell 3
 have f3 := hs2.frozen 3
 have l3 := hs2.lt
 have hs3 := hs2.set_ 3 (.slice B3 gh.length d3)
 simp only [List.setIfInBounds_toArray, List.set_cons_zero, List.set_cons_succ] at hs3
 go_simp
 go_wp2_with fail
 clear g3 f3 l3
 refine hK.out _ _ ?_
 clear hK K
 refine pureT 16 (v := ?_) rfl (by kernel_rfl) (by kernel_rfl) (by kernel_rfl) (by kernel_rfl) (fun _ _ _ h => h) (by rfl) (nomore (by kernel_rfl)) ?_ ?_
 rotate_left
 ·(intro wz; go_simp; try with_reducible rfl)
 try simp only [Act.put, List.setIfInBounds_toArray, List.set_cons_zero, List.set_cons_succ]
 refine storeT 17 rfl (by kernel_rfl) (by kernel_rfl) (fun K hK => ?_)
 have g4 := hs3.cell 4
 have f4 := hs3.frozen 4
 have l4 := hs3.lt
 have hs4 := hs3.set_ 4 (.slice B4 va.length d4)
 simp only [List.setIfInBounds_toArray, List.set_cons_zero, List.set_cons_succ] at hs4
 go_simp
 go_wp2_with fail
 clear g4 f4 l4
 refine hK.out _ _ ?_
 clear hK K
 refine pureT 18 (v := ?_) rfl (by kernel_rfl) (by kernel_rfl) (by kernel_rfl) (by kernel_rfl) (fun _ _ _ h => h) (by rfl) (nomore (by kernel_rfl)) ?_ ?_
 rotate_left
 ·(intro wz; go_simp; try with_reducible rfl)
 try simp only [Act.put, List.setIfInBounds_toArray, List.set_cons_zero, List.set_cons_succ]
 refine storeT 19 rfl (by kernel_rfl) (by kernel_rfl) (fun K hK => ?_)
 have g5 := hs4.cell 5
 have f5 := hs4.frozen 5
 have l5 := hs4.lt
 have hs5 := hs4.set_ 5 (.slice B5 ar.length d5)
 simp only [List.setIfInBounds_toArray, List.set_cons_zero, List.set_cons_succ] at hs5
 go_simp
 go_wp2_with fail
 clear g5 f5 l5
 refine hK.out _ _ ?_
 clear hK K
 refine wpAnyT_done (by kernel_rfl) ?_ _
 have hof : Only [w.heap.size] V5 ((((V5.setCell ⟨w.heap.size, 2, none⟩ (.slice B2 ins.length d2)).setCell ⟨w.heap.size, 3, none⟩ (.slice B3 gh.length d3)).setCell ⟨w.heap.size, 4, none⟩ (.slice B4 va.length d4)).setCell ⟨w.heap.size, 5, none⟩ (.slice B5 ar.length d5)) := (((((Only.refl [w.heap.size] V5).setCell (.inl (by simp)) (.slice B2 ins.length d2)).setCell (.inl (by simp)) (.slice B3 gh.length d3)).setCell (.inl (by simp)) (.slice B4 va.length d4)).setCell (.inl (by simp)) (.slice B5 ar.length d5))
 have hb3 := hs5
 have hX3 := hX5.cell hof
 have hB3 : Below w.heap.size w ((((V5.setCell ⟨w.heap.size, 2, none⟩ (.slice B2 ins.length d2)).setCell ⟨w.heap.size, 3, none⟩ (.slice B3 gh.length d3)).setCell ⟨w.heap.size, 4, none⟩ (.slice B4 va.length d4)).setCell ⟨w.heap.size, 5, none⟩ (.slice B5 ar.length d5)) := hBV5.trans (hof.below hBV5.size (by simp))
 clear hs2 hs3 hs4 hs5 hbV2 hbV3 hbV4 hbV5 hBV2 hBV3 hBV4 hBV5 hX2 hX4 hX5 hX1 hb1 hB1 hS hSi hSe hof
 clear S
 generalize ((((V5.setCell ⟨w.heap.size, 2, none⟩ (.slice B2 ins.length d2)).setCell ⟨w.heap.size, 3, none⟩ (.slice B3 gh.length d3)).setCell ⟨w.heap.size, 4, none⟩ (.slice B4 va.length d4)).setCell ⟨w.heap.size, 5, none⟩ (.slice B5 ar.length d5)) = W3 at *
 go_upto_region 4 with (fail)
 obtain ⟨S, hSi, hSe⟩ : ∃ S : World → Prop, (∀ W, (W.cell? ⟨w.heap.size, 12, none⟩ = some (.slice A7 inits.length c7) ∧ W.cell? ⟨w.heap.size, 13, none⟩ = some (.slice A8 procs.length c8)) → S W) ∧ (∀ W, S W → (W.cell? ⟨w.heap.size, 12, none⟩ = some (.slice A7 inits.length c7) ∧ W.cell? ⟨w.heap.size, 13, none⟩ = some (.slice A8 procs.length c8))) := ⟨fun W => W.cell? ⟨w.heap.size, 12, none⟩ = some (.slice A7 inits.length c7) ∧ W.cell? ⟨w.heap.size, 13, none⟩ = some (.slice A8 procs.length c8), fun _ h => h, fun _ h => h⟩
 have hS : S W3.drew := hSi _ ⟨hb3.cell 12, hb3.cell 13⟩
 replace hSi := Lib.hid hSi
 replace hSe := Lib.hid hSe
 refine wp_region_T (S := S) (St := [7, 9]) (by kernel_rfl) ?_
 change wpAnyT _ _ _ _ _ _ _ _ _ (World.drew _)
 refine pureT 0 (v := ?_) rfl (by kernel_rfl) (by kernel_rfl) (by kernel_rfl) (by kernel_rfl) (fun _ _ _ h => h) (by rfl) (fun _ => hS) ?_ ?_
 rotate_left
 ·(intro wz; go_simp; try with_reducible rfl)
 try simp only [Act.put, List.setIfInBounds_toArray, List.set_cons_zero, List.set_cons_succ]
 refine pureT 3 (v := ?_) rfl (by kernel_rfl) (by kernel_rfl) (by kernel_rfl) (by kernel_rfl) (fun _ _ _ h => h) (by rfl) (fun _ => hS) ?_ ?_
 rotate_left
 ·(intro wz; go_simp; try with_reducible rfl)
 try simp only [Act.put, List.setIfInBounds_toArray, List.set_cons_zero, List.set_cons_succ]
 refine takeT 1 (v := .slice A7 inits.length c7) rfl (by kernel_rfl) (by kernel_rfl) (by kernel_rfl) (by kernel_rfl) (fun _ _ _ h => h) (by rfl) hS ?_ ?_
 ·(intro wz hSw; obtain ⟨z0, z1⟩ := hSe.out _ hSw; go_simp)
 try simp only [Act.put, List.setIfInBounds_toArray, List.set_cons_zero, List.set_cons_succ]
 refine takeT 4 (v := .slice A8 procs.length c8) rfl (by kernel_rfl) (by kernel_rfl) (by kernel_rfl) (by kernel_rfl) (fun _ _ _ h => h) (by rfl) hS ?_ ?_
 ·(intro wz hSw; obtain ⟨z0, z1⟩ := hSe.out _ hSw; go_simp)
 try simp only [Act.put, List.setIfInBounds_toArray, List.set_cons_zero, List.set_cons_succ]
 refine callT 2 rfl (by kernel_rfl) (fun K hK => ?_)
 go_simp
 go_wp2_with (go_at_call 98; refine (hCI.out W3.drew hB3.drew).mono ?_; rintro e V6 ⟨⟨J7, j7⟩, rfl, hRI, hU⟩)
 replace hU := below_undrew hU
 have hBV6 := below_and hB3 hU
 have hbV6 := hb3.below hU hb3.lt
 have hX6 := hX3.new hU
 have hI6 : ∀ b ∈ (Loc.mk J7 j7).fp, W3.heap.size ≤ b ∧ b < V6.heap.size := fun b hb => own_ge hRI b hb
 have hG6 := hU.size
 clear hU
 refine hK.out _ _ (hSi.out _ ⟨hbV6.cell 12, hbV6.cell 13⟩) (fun hSn => ?_)
 clear hK K hS
 have hS := hSn
 clear hSn
 refine pureT 6 (v := ?_) rfl (by kernel_rfl) (by kernel_rfl) (by kernel_rfl) (by kernel_rfl) (fun _ _ _ h => h) (by rfl) (fun _ => hS) ?_ ?_
 rotate_left
 ·(intro wz; go_simp; try with_reducible rfl)
 try simp only [Act.put, List.setIfInBounds_toArray, List.set_cons_zero, List.set_cons_succ]
 refine callT 5 rfl (by kernel_rfl) (fun K hK => ?_)
 go_simp
 go_wp2_with (go_at_call 99; refine (hCP.out V6 hBV6).mono ?_; rintro e V7 ⟨⟨J8, j8⟩, rfl, hRP, hU⟩)
 have hBV7 := below_and hBV6 hU
 have hbV7 := hbV6.below hU hbV6.lt
 have hX7 := hX6.new hU
 have hP7 : ∀ b ∈ (Loc.mk J8 j8).fp, V6.heap.size ≤ b ∧ b < V7.heap.size := fun b hb => own_ge hRP b hb
 have hRI7 := (keep_row _ _ _ _ ⟨J7, j7⟩ _).new hRI hU
 have hG7 := hU.size
 clear hU hRI
 refine hK.out _ _ (hSi.out _ ⟨hbV7.cell 12, hbV7.cell 13⟩) (fun hSn => ?_)
 clear hK K hS
 have hS := hSn
 clear hSn
 refine storeT 7 rfl (by kernel_rfl) (by kernel_rfl) (fun K hK => ?_)
 have g12 := hbV7.cell 12
 have f12 := hbV7.frozen 12
 have l12 := hbV7.lt
 have hs12 := hbV7.set_ 12 (.slice J7 inits.length j7)
 simp only [List.setIfInBounds_toArray, List.set_cons_zero, List.set_cons_succ] at hs12
 go_simp
 go_wp2_with fail
 clear g12 f12 l12
 refine hK.out _ _ ?_
 clear hK K
 refine pureT 8 (v := ?_) rfl (by kernel_rfl) (by kernel_rfl) (by kernel_rfl) (by kernel_rfl) (fun _ _ _ h => h) (by rfl) (nomore (by kernel_rfl)) ?_ ?_
 rotate_left
 ·(intro wz; go_simp; try with_reducible rfl)
 try simp only [Act.put, List.setIfInBounds_toArray, List.set_cons_zero, List.set_cons_succ]
 refine storeT 9 rfl (by kernel_rfl) (by kernel_rfl) (fun K hK => ?_)
 have g13 := hs12.cell 13
 have f13 := hs12.frozen 13
 have l13 := hs12.lt
 have hs13 := hs12.set_ 13 (.slice J8 procs.length j8)
 simp only [List.setIfInBounds_toArray, List.set_cons_zero, List.set_cons_succ] at hs13
 go_simp
 go_wp2_with fail
 clear g13 f13 l13
 refine hK.out _ _ ?_
 clear hK K
 refine wpAnyT_done (by kernel_rfl) ?_ _
 have hof : Only [w.heap.size] V7 ((V7.setCell ⟨w.heap.size, 12, none⟩ (.slice J7 inits.length j7)).setCell ⟨w.heap.size, 13, none⟩ (.slice J8 procs.length j8)) := (((Only.refl [w.heap.size] V7).setCell (.inl (by simp)) (.slice J7 inits.length j7)).setCell (.inl (by simp)) (.slice J8 procs.length j8))
 have hgw : w.heap.size < W3.heap.size := hb3.lt
 have hb4 := hs13
 have hX4 := hX7.cell hof
 have hRI4 := (keep_row _ _ _ _ ⟨J7, j7⟩ _).only hRI7 hof (fun b hb hm => by have := hI6 b hb; simp at hm; omega)
 have hRP4 := (keep_row _ _ _ _ ⟨J8, j8⟩ _).only hRP hof (fun b hb hm => by have := hP7 b hb; simp at hm; omega)
 have hB4 : Below w.heap.size w ((V7.setCell ⟨w.heap.size, 12, none⟩ (.slice J7 inits.length j7)).setCell ⟨w.heap.size, 13, none⟩ (.slice J8 procs.length j8)) := hBV7.trans (hof.below hBV7.size (by simp))
 have hX3lt := hX3.lt
 have hg34 : W3.heap.size ≤ (((V7.setCell ⟨w.heap.size, 12, none⟩ (.slice J7 inits.length j7)).setCell ⟨w.heap.size, 13, none⟩ (.slice J8 procs.length j8))).heap.size := by have := hof.size; have := hG6; have := hG7; omega
 have hg64 : V6.heap.size ≤ (((V7.setCell ⟨w.heap.size, 12, none⟩ (.slice J7 inits.length j7)).setCell ⟨w.heap.size, 13, none⟩ (.slice J8 procs.length j8))).heap.size := by have := hof.size; have := hG7; omega
 have hP4 : ∀ b ∈ (Loc.mk J8 j8).fp, V6.heap.size ≤ b ∧ b < (((V7.setCell ⟨w.heap.size, 12, none⟩ (.slice J7 inits.length j7)).setCell ⟨w.heap.size, 13, none⟩ (.slice J8 procs.length j8))).heap.size := fun b hb => by have := hP7 b hb; have := hof.size; omega
 have hg36 : W3.heap.size ≤ V6.heap.size := hG6
 have hI4 : ∀ b ∈ (Loc.mk J7 j7).fp, W3.heap.size ≤ b ∧ b < V6.heap.size := hI6
 have hw3 : w.heap.size ≤ W3.heap.size := hB3.size
 have hw6 : w.heap.size ≤ V6.heap.size := hBV6.size
 have hRI4 := own_base hRI4 hw3
 have hRP4 := own_base hRP4 hw6
 clear hs12 hs13 hbV6 hbV7 hBV6 hBV7 hX6 hX7 hX3 hb3 hB3 hS hSi hSe hof hRI7 hRP hP7 hI6 hw6
 clear S
 generalize ((V7.setCell ⟨w.heap.size, 12, none⟩ (.slice J7 inits.length j7)).setCell ⟨w.heap.size, 13, none⟩ (.slice J8 procs.length j8)) = W4 at *
 clear hG6 hG7
 have hgw4 : w.heap.size < W4.heap.size := hb4.lt
 obtain ⟨ni, hni'⟩ : ∃ n, n = inits.length := ⟨_, rfl⟩
 rw [← hni'] at hb4 hRI4 hni
 replace hni' := Lib.hid hni'
 obtain ⟨np, hnp'⟩ : ∃ n, n = procs.length := ⟨_, rfl⟩
 rw [← hnp'] at hb4 hRP4 hnp
 replace hnp' := Lib.hid hnp'
 have c12 := hb4.cell 12
 simp only [List.getElem?_toArray, List.getElem?_cons_zero, List.getElem?_cons_succ] at c12
 go_wp2_with fail
 clear c12
 go_loopw [38] (fun i wr => ∃ (k : Nat) (news : List (In Loc)), i = .int .i64 k ∧ NIn w.heap.size inits J7 j7 ni k news W4 wr) (fun i _ => ni - (intOf i).toNat)
 case atStart => exact ⟨0, [], rfl, Nat.zero_le _, rfl, rfl, hRI4, (fun x hx => by cases hx), List.nodup_nil, Only.refl _ _, (fun b hb => by cases hb)⟩
 case round =>
  clear hRI4
  obtain ⟨k, news, rfl, hN⟩ := hrel
  have k0 : 0 ≤ (k : Int) := by omega
  have hkn := hN.kn
  have hPn : ∀ b ∈ (Loc.mk J7 j7).fp, w.heap.size ≠ b := fun b hb e => by have := hI4 b hb; omega
  have hbr := hb4.only hN.on (fun h => hPn _ h rfl)
  have hBr : Below w.heap.size w wr := hB4.trans (hN.on.below hB4.size (fun b hb => by have := hI4 b hb; omega))
  have hlr := hbr.lt
  by_cases hlt : k < ni
  ·have hx : inits[k]? = some (inits[k]'(by have := hni'.out; omega)) := List.getElem?_eq_getElem (by have := hni'.out; omega)
   generalize inits[k]'(by have := hni'.out; omega) = x at hx
   have hdrop : inits.drop k = x :: inits.drop (k + 1) := by
    obtain ⟨h1, h2⟩ := List.getElem?_eq_some_iff.1 hx
    rw [List.drop_eq_getElem_cons h1, h2]
   have htk : (inits.take (k + 1)).map In.plain = (inits.take k).map In.plain ++ [x.plain] := by
    obtain ⟨h1, h2⟩ := List.getElem?_eq_some_iff.1 hx
    rw [List.take_succ_eq_append_getElem h1, h2, List.map_append]; rfl
   have hrow := hN.row
   rw [hdrop] at hrow
   obtain ⟨g, cap, hv, _, hglt⟩ := hrow.form (by omega)
   injection hv with hv _ hcp
   subst hv
   subst hcp
   have hcall := hNI.out x (List.mem_of_getElem? hx)
   obtain ⟨xb, ⟨⟨xk, xo, xv, xw, xn⟩, ⟨xA, xc⟩, xs⟩⟩ := x
   dsimp only at hcall
   simp only [aggX, Ex.cells, eT] at hcall
   rw [cellsI_append] at hrow
   have hrow : wr.ownsRow w.heap.size 62 7 (.slice (some ⟨g, 0, none⟩) ni j7) ni (cellsI eT news ++ ([.int .i64 xb, .int .u8 xk, .int .u8 xo, .int .u32 xv, .int .i64 xw, .string xn, .slice xA xs.length xc] ++ cellsI eT (inits.drop (k + 1)))) := hrow
   have hpre : (cellsI eT news).length = k * 7 := by rw [cellsI_len, hN.len]
   have r0 := (own_at hrow hpre 0 rfl).1
   have r1 := (own_at hrow hpre 1 rfl).1
   have r2 := (own_at hrow hpre 2 rfl).1
   have r3 := (own_at hrow hpre 3 rfl).1
   have r4 := (own_at hrow hpre 4 rfl).1
   have r5 := (own_at hrow hpre 5 rfl).1
   have r6 := (own_at hrow hpre 6 rfl).1
   rw [Nat.add_zero] at r0
   have k1 : (k : Int) < (ni : Int) := by omega
   have hd1 : decide ((k : Int) < (ni : Int)) = true := by simp; omega
   have hgI : W3.heap.size ≤ g ∧ g < V6.heap.size := hI4 g (by simp [Loc.fp])
   have hng : w.heap.size ≠ g := hPn g (by simp [Loc.fp])
   have hx' := Lib.hid hx
   have htk' := Lib.hid htk
   have hpre' := Lib.hid hpre
   have hN' := Lib.hid hN
   have hrow' := Lib.hid hrow
   replace hcall := Lib.hid hcall
   have hPn' := Lib.hid hPn
   clear hx htk hpre hN hrow hdrop hPn
   have hBx := (Below.refl _ wr).alloc (Nat.le_refl _) (.cells #[.int .i64 xb, .int .u8 xk, .int .u8 xo, .int .u32 xv, .int .i64 xw, .string xn, .slice xA xs.length xc] 62)
   have hbe := Blk.new wr 62 #[.int .i64 xb, .int .u8 xk, .int .u8 xo, .int .u32 xv, .int .i64 xw, .string xn, .slice xA xs.length xc]
   have hby := hbr.alloc (.cells #[.int .i64 xb, .int .u8 xk, .int .u8 xo, .int .u32 xv, .int .i64 xw, .string xn, .slice xA xs.length xc] 62)
   go_upto_region 8 with (fail)
   clear r0 r1 r2 r3 r4 r5 r6
   have hrowy := own_only hrow'.out (only_of_below [] hBx) (by simp)
   have hsBx := hBx.size
   generalize wr.alloc (.cells #[.int .i64 xb, .int .u8 xk, .int .u8 xo, .int .u32 xv, .int .i64 xw, .string xn, .slice xA xs.length xc] 62) = Wy at *
   have hBy := below_and hBr hBx
   have hbel := hbe.lt
   have hgbe : g < wr.heap.size := hglt
   obtain ⟨S, hSi, hSe⟩ : ∃ S : World → Prop, (∀ W, (W.cell? ⟨w.heap.size, 12, none⟩ = some (.slice (some ⟨g, 0, none⟩) ni j7) ∧ W.cell? ⟨wr.heap.size, 1, none⟩ = some (.int .u8 xk) ∧ W.cell? ⟨wr.heap.size, 2, none⟩ = some (.int .u8 xo) ∧ W.cell? ⟨wr.heap.size, 3, none⟩ = some (.int .u32 xv) ∧ W.cell? ⟨wr.heap.size, 4, none⟩ = some (.int .i64 xw) ∧ W.cell? ⟨wr.heap.size, 5, none⟩ = some (.string xn) ∧ W.cell? ⟨wr.heap.size, 6, none⟩ = some (.slice xA xs.length xc)) → S W) ∧ (∀ W, S W → (W.cell? ⟨w.heap.size, 12, none⟩ = some (.slice (some ⟨g, 0, none⟩) ni j7) ∧ W.cell? ⟨wr.heap.size, 1, none⟩ = some (.int .u8 xk) ∧ W.cell? ⟨wr.heap.size, 2, none⟩ = some (.int .u8 xo) ∧ W.cell? ⟨wr.heap.size, 3, none⟩ = some (.int .u32 xv) ∧ W.cell? ⟨wr.heap.size, 4, none⟩ = some (.int .i64 xw) ∧ W.cell? ⟨wr.heap.size, 5, none⟩ = some (.string xn) ∧ W.cell? ⟨wr.heap.size, 6, none⟩ = some (.slice xA xs.length xc))) := ⟨fun W => W.cell? ⟨w.heap.size, 12, none⟩ = some (.slice (some ⟨g, 0, none⟩) ni j7) ∧ W.cell? ⟨wr.heap.size, 1, none⟩ = some (.int .u8 xk) ∧ W.cell? ⟨wr.heap.size, 2, none⟩ = some (.int .u8 xo) ∧ W.cell? ⟨wr.heap.size, 3, none⟩ = some (.int .u32 xv) ∧ W.cell? ⟨wr.heap.size, 4, none⟩ = some (.int .i64 xw) ∧ W.cell? ⟨wr.heap.size, 5, none⟩ = some (.string xn) ∧ W.cell? ⟨wr.heap.size, 6, none⟩ = some (.slice xA xs.length xc), fun _ h => h, fun _ h => h⟩
   have hS : S Wy.drew := hSi _ ⟨hby.cell 12, hbe.cell 1, hbe.cell 2, hbe.cell 3, hbe.cell 4, hbe.cell 5, hbe.cell 6⟩
   replace hSi := Lib.hid hSi
   replace hSe := Lib.hid hSe
   refine wp_region_held (S := S) (by kernel_rfl) ?_
   change wpAnyH _ _ _ _ _ _ _ _ (World.drew _)
   refine takeH 0 (v := ?_) rfl (by kernel_rfl) (by kernel_rfl) (by kernel_rfl) (fun _ _ _ h => h) (by rfl) hS ?_ ?_
   rotate_left
   ·(intro wz hSw; obtain ⟨z0, z1, z2, z3, z4, z5, z6⟩ := hSe.out _ hSw; go_simp; try with_reducible rfl)
   try simp only [Act.put, List.setIfInBounds_toArray, List.set_cons_zero, List.set_cons_succ]
   refine takeH 2 (v := ?_) rfl (by kernel_rfl) (by kernel_rfl) (by kernel_rfl) (fun _ _ _ h => h) (by rfl) hS ?_ ?_
   rotate_left
   ·(intro wz hSw; obtain ⟨z0, z1, z2, z3, z4, z5, z6⟩ := hSe.out _ hSw; go_simp; try with_reducible rfl)
   try simp only [Act.put, List.setIfInBounds_toArray, List.set_cons_zero, List.set_cons_succ]
   refine takeH 3 (v := ?_) rfl (by kernel_rfl) (by kernel_rfl) (by kernel_rfl) (fun _ _ _ h => h) (by rfl) hS ?_ ?_
   rotate_left
   ·(intro wz hSw; obtain ⟨z0, z1, z2, z3, z4, z5, z6⟩ := hSe.out _ hSw; go_simp; try with_reducible rfl)
   try simp only [Act.put, List.setIfInBounds_toArray, List.set_cons_zero, List.set_cons_succ]
   refine takeH 1 (v := .slice (some ⟨g, 0, none⟩) ni j7) rfl (by kernel_rfl) (by kernel_rfl) (by kernel_rfl) (fun _ _ _ h => h) (by rfl) hS ?_ ?_
   ·(intro wz hSw; obtain ⟨z0, z1, z2, z3, z4, z5, z6⟩ := hSe.out _ hSw; go_simp)
   try simp only [Act.put, List.setIfInBounds_toArray, List.set_cons_zero, List.set_cons_succ]
   refine takeH 4 (v := .agg #[.int .u8 xk, .int .u8 xo, .int .u32 xv, .int .i64 xw, .string xn, .slice xA xs.length xc]) rfl (by kernel_rfl) (by kernel_rfl) (by kernel_rfl) (fun _ _ _ h => h) (by rfl) hS ?_ ?_
   ·(intro wz hSw; obtain ⟨z0, z1, z2, z3, z4, z5, z6⟩ := hSe.out _ hSw; go_simp)
   try simp only [Act.put, List.setIfInBounds_toArray, List.set_cons_zero, List.set_cons_succ]
   refine callH 5 rfl (by kernel_rfl) (fun K hK => ?_)
   go_simp
   go_wp2_with (go_at_call 82; refine (hcall.out Wy.drew hBy.drew).mono ?_; rintro e w5 ⟨zk, zo, zv, zw, zn, zA, zc, zs, rfl, hLp, hLo, hLn, hB5'⟩)
   have hB5 := below_undrew hB5'
   have hbe5 := hbe.below hB5 hbel
   have hby5 := hby.below hB5 hby.lt
   have hrow5 := own_only hrowy (only_of_below [] hB5) (by simp)
   have hsev := own_seven hrow5 hpre'.out
   clear hB5'
   refine hK.out _ _ (hSi.out _ ⟨hby5.cell 12, hbe5.cell 1, hbe5.cell 2, hbe5.cell 3, hbe5.cell 4, hbe5.cell 5, hbe5.cell 6⟩) (fun hSn => ?_)
   clear hK K hS
   have hS := hSn
   clear hSn
   refine takeH 6 (v := .pointer (some ⟨g, k * 7, none⟩)) rfl (by kernel_rfl) (by kernel_rfl) (by kernel_rfl) (fun _ _ _ h => h) (by rfl) hS ?_ ?_
   ·(intro wz hSw; obtain ⟨z0, z1, z2, z3, z4, z5, z6⟩ := hSe.out _ hSw; go_simp)
   try simp only [Act.put, List.setIfInBounds_toArray, List.set_cons_zero, List.set_cons_succ]
   refine takeH 7 (v := .pointer (some ⟨g, k * 7 + 1, none⟩)) rfl (by kernel_rfl) (by kernel_rfl) (by kernel_rfl) (fun _ _ _ h => h) (by rfl) hS ?_ ?_
   ·(intro wz hSw; obtain ⟨z0, z1, z2, z3, z4, z5, z6⟩ := hSe.out _ hSw; go_simp)
   try simp only [Act.put, List.setIfInBounds_toArray, List.set_cons_zero, List.set_cons_succ]
   refine callH 8 rfl (by kernel_rfl) (fun K hK => ?_)
   rw [if_pos (by rfl)]
   have hgo : Only [g] w5 ((((((w5.setCell ⟨g, k * 7 + 1, none⟩ (.int .u8 zk)).setCell ⟨g, k * 7 + 1 + 1, none⟩ (.int .u8 zo)).setCell ⟨g, k * 7 + 1 + 2, none⟩ (.int .u32 zv)).setCell ⟨g, k * 7 + 1 + 3, none⟩ (.int .i64 zw)).setCell ⟨g, k * 7 + 1 + 4, none⟩ (.string zn)).setCell ⟨g, k * 7 + 1 + 5, none⟩ (.slice zA zs.length zc)) := Only.six (i := k * 7 + 1) (Only.refl _ _) (.inl (by simp)) _ _ _ _ _ _
   have hbe6 := hbe5.only hgo (by simp; omega)
   have hby6 := hby5.only hgo (by simpa using hng)
   have hrow6 := hsev.2 (.int .u8 zk) (.int .u8 zo) (.int .u32 zv) (.int .i64 zw) (.string zn) (.slice zA zs.length zc)
   refine wp_store_six 30 (.tmp 50) (.tmp 48) rfl g (k * 7 + 1) (.int .u8 zk) (.int .u8 zo) (.int .u32 zv) (.int .i64 zw) (.string zn) (.slice zA zs.length zc) rfl rfl hsev.1 (by kernel_rfl) (by simp [Value.oneCell']) ?_
   refine hK.out _ _ (hSi.out _ ⟨hby6.cell 12, hbe6.cell 1, hbe6.cell 2, hbe6.cell 3, hbe6.cell 4, hbe6.cell 5, hbe6.cell 6⟩) (fun hSn => ?_)
   clear hK K hS
   have hS := hSn
   clear hSn
   refine wpAnyH_done (by kernel_rfl) ?_ _
   generalize ((((((w5.setCell ⟨g, k * 7 + 1, none⟩ (.int .u8 zk)).setCell ⟨g, k * 7 + 1 + 1, none⟩ (.int .u8 zo)).setCell ⟨g, k * 7 + 1 + 2, none⟩ (.int .u32 zv)).setCell ⟨g, k * 7 + 1 + 3, none⟩ (.int .i64 zw)).setCell ⟨g, k * 7 + 1 + 4, none⟩ (.string zn)).setCell ⟨g, k * 7 + 1 + 5, none⟩ (.slice zA zs.length zc)) = w6 at *
   clear hS hSi hSe
   clear S
   have hN := hN'.out
   have hgn : g ∉ fpsI news := fun h => by have := hN.ge g h; omega
   have hLge := hLo.ge
   have hfin : NIn w.heap.size inits (some ⟨g, 0, none⟩) j7 ni (k + 1) (news ++ [⟨xb, Ex.mk ⟨zk, zo, zv, zw, zn⟩ ⟨zA, zc⟩ zs⟩]) W4 w6 := by
    refine ⟨by omega, by rw [List.length_append, hN.len]; rfl, ?_, ?_, ?_, ?_, ?_, ?_⟩
    ·rw [htk'.out, List.map_append, hN.pl, List.map_cons, List.map_nil]
     simp only [In.plain, hLp]
    ·rw [List.append_assoc, cellsI_append]
     exact hrow6
    ·intro y hy
     rcases List.mem_append.1 hy with hy | hy
     ·exact (keep_ownsI _ news).only ((keep_ownsI _ news).new ((keep_ownsI _ news).new hN.own hBx) hB5) hgo (fun b hb hm => by rw [List.mem_singleton] at hm; rw [hm] at hb; exact hgn hb) y hy
     ·rw [List.mem_singleton] at hy; rw [hy]
      exact (hLo.keep hgo (fun b hb hm => by rw [List.mem_singleton] at hm; have : Wy.heap.size ≤ b := (hLge b hb).1; omega)).base_le hBy.size
    ·rw [fpsI_append]
     refine nodup_at hN.nd (by simpa [fpsI] using hLn) (B := Wy.heap.size) (fun b hb => by have := (ownsI_ge hN.own b hb).2; omega) (fun b hb => (hLge b (by simpa [fpsI] using hb)).1)
    ·exact hN.on.trans (((only_of_below [g] hBx).trans (only_of_below [g] hB5)).trans hgo)
    ·intro b hb
     rw [fpsI_append] at hb
     rcases List.mem_append.1 hb with hb | hb
     ·exact hN.ge b hb
     ·have h1 : Wy.heap.size ≤ b := (hLge b (by simpa [fpsI] using hb)).1
      have := hN.on.size
      omega
   replace hfin := Lib.hid hfin
   clear hN hgn hLge hLo hLn hLp hrow5 hrow6 hrowy hsev hgo hB5 hbe hbe5 hbe6 hby hby5 hby6 hBx
   go_wp2_with fail
   go_roundw
   case rel => exact ⟨k + 1, _, by go_num, hfin.out⟩
   case measure => simp [intOf]; omega
  ·obtain rfl : k = ni := by omega
   have hLn : news.length = k := hN.len
   have hLp : news.map In.plain = inits.map In.plain := by rw [hN.pl, hni'.out, List.take_length]
   have hLi : Lin.own wr w.heap.size ⟨J7, j7⟩ news := by
    have h1 := hN.row
    rw [List.drop_eq_nil_of_le (by rw [← hni'.out]; omega), List.append_nil] at h1
    refine ⟨?_, hN.own⟩
    rw [hLn]
    exact h1
   have hLnd := hN.nd
   have hLge := hN.ge
   have hLon := hN.on
   have hX5a := hX4.only hN.on (fun b hb hm => by have := hX3lt b hb; have := hI4 b hm; omega)
   have hRP5 := (keep_row _ _ _ _ ⟨J8, j8⟩ _).only hRP4 hN.on (fun b hb hm => by have := hP4 b hb; have := hI4 b hm; omega)
   have hG45 := hN.on.size
   have hLlt := fun b hb => (hLi.ge b hb).2
   clear hN hX4 hRP4 hb4 hB4 hlt hkn hLon hPn
   rename World => wv
   replace hLn := Lib.hid hLn
   replace hLp := Lib.hid hLp
   replace hni' := Lib.hid hni'
   have c13 := hbr.cell 13
   simp only [List.getElem?_toArray, List.getElem?_cons_zero, List.getElem?_cons_succ] at c13
   go_wp2_with fail
   clear c13
   go_loopw [55] (fun i wr => ∃ (q : Nat) (newsP : List (Pr Loc)), i = .int .i64 q ∧ NPr w.heap.size procs J8 j8 np q newsP wv wr) (fun i _ => np - (intOf i).toNat)
   case atStart => exact ⟨0, [], rfl, Nat.zero_le _, rfl, rfl, hRP5, (fun x hx => by cases hx), List.nodup_nil, Only.refl _ _, (fun b hb => by cases hb)⟩
   case round =>
    clear hRP5
    obtain ⟨q, newsP, rfl, hN⟩ := hrel
    have q0 : 0 ≤ (q : Int) := by omega
    have hkn := hN.kn
    have hPn : ∀ b ∈ (Loc.mk J8 j8).fp, w.heap.size ≠ b := fun b hb e => by have := hP4 b hb; omega
    have hbz := hbr.only hN.on (fun h => hPn _ h rfl)
    have hBz : Below w.heap.size w wr := hBr.trans (hN.on.below hBr.size (fun b hb => by have := hP4 b hb; omega))
    have hlz := hbz.lt
    by_cases hlt : q < np
    ·have hx : procs[q]? = some (procs[q]'(by have := hnp'.out; omega)) := List.getElem?_eq_getElem (by have := hnp'.out; omega)
     generalize procs[q]'(by have := hnp'.out; omega) = x at hx
     have hdrop : procs.drop q = x :: procs.drop (q + 1) := by
      obtain ⟨h1, h2⟩ := List.getElem?_eq_some_iff.1 hx
      rw [List.drop_eq_getElem_cons h1, h2]
     have htk : (procs.take (q + 1)).map Pr.plain = (procs.take q).map Pr.plain ++ [x.plain] := by
      obtain ⟨h1, h2⟩ := List.getElem?_eq_some_iff.1 hx
      rw [List.take_succ_eq_append_getElem h1, h2, List.map_append]; rfl
     have hrow := hN.row
     rw [hdrop] at hrow
     obtain ⟨g, cap, hv, _, hglt⟩ := hrow.form (by omega)
     injection hv with hv _ hcp
     subst hv
     subst hcp
     have hcP := hNP.out x (List.mem_of_getElem? hx)
     have hcQ := hNQ.out x (List.mem_of_getElem? hx)
     obtain ⟨xn, ⟨pA, pc⟩, ps, ⟨bA, bc⟩, body⟩ := x
     dsimp only at hcP hcQ
     rw [cellsP_append] at hrow
     have hrow : wr.ownsRow w.heap.size 64 3 (.slice (some ⟨g, 0, none⟩) np j8) np (cellsP newsP ++ ([.string xn, .slice pA ps.length pc, .slice bA body.length bc] ++ cellsP (procs.drop (q + 1)))) := hrow
     have hpre : (cellsP newsP).length = q * 3 := by rw [cellsP_len, hN.len]
     have r0 := (own_at hrow hpre 0 rfl).1
     have r1 := (own_at hrow hpre 1 rfl).1
     have r2 := (own_at hrow hpre 2 rfl).1
     rw [Nat.add_zero] at r0
     have q1 : (q : Int) < (np : Int) := by omega
     have hd1 : decide ((q : Int) < (np : Int)) = true := by simp; omega
     have hgP : V6.heap.size ≤ g ∧ g < W4.heap.size := hP4 g (by simp [Loc.fp])
     have hng : w.heap.size ≠ g := hPn g (by simp [Loc.fp])
     have hx' := Lib.hid hx
     have htk' := Lib.hid htk
     have hpre' := Lib.hid hpre
     have hN' := Lib.hid hN
     have hrow' := Lib.hid hrow
     replace hcP := Lib.hid hcP
     replace hcQ := Lib.hid hcQ
     clear hx htk hpre hN hrow hdrop hPn
     have hBx := (Below.refl _ wr).alloc (Nat.le_refl _) (.cells #[.string xn, .slice pA ps.length pc, .slice bA body.length bc] 64)
     have hbe := Blk.new wr 64 #[.string xn, .slice pA ps.length pc, .slice bA body.length bc]
     have hby := hbz.alloc (.cells #[.string xn, .slice pA ps.length pc, .slice bA body.length bc] 64)
     go_upto_region 13 with (fail)
     clear r0 r1 r2
     have hrowy := own_only hrow'.out (only_of_below [] hBx) (by simp)
     have hsBx := hBx.size
     generalize wr.alloc (.cells #[.string xn, .slice pA ps.length pc, .slice bA body.length bc] 64) = Wy at *
     have hBy := below_and hBz hBx
     have hbel := hbe.lt
     have hgbe : g < wr.heap.size := hglt
     obtain ⟨S, hSi, hSe⟩ : ∃ S : World → Prop, (∀ W, (W.cell? ⟨w.heap.size, 13, none⟩ = some (.slice (some ⟨g, 0, none⟩) np j8) ∧ W.cell? ⟨wr.heap.size, 1, none⟩ = some (.slice pA ps.length pc) ∧ W.cell? ⟨wr.heap.size, 2, none⟩ = some (.slice bA body.length bc)) → S W) ∧ (∀ W, S W → (W.cell? ⟨w.heap.size, 13, none⟩ = some (.slice (some ⟨g, 0, none⟩) np j8) ∧ W.cell? ⟨wr.heap.size, 1, none⟩ = some (.slice pA ps.length pc) ∧ W.cell? ⟨wr.heap.size, 2, none⟩ = some (.slice bA body.length bc))) := ⟨fun W => W.cell? ⟨w.heap.size, 13, none⟩ = some (.slice (some ⟨g, 0, none⟩) np j8) ∧ W.cell? ⟨wr.heap.size, 1, none⟩ = some (.slice pA ps.length pc) ∧ W.cell? ⟨wr.heap.size, 2, none⟩ = some (.slice bA body.length bc), fun _ h => h, fun _ h => h⟩
     have hS : S Wy.drew := hSi _ ⟨hby.cell 13, hbe.cell 1, hbe.cell 2⟩
     replace hSi := Lib.hid hSi
     replace hSe := Lib.hid hSe
     refine wp_region_held (S := S) (by kernel_rfl) ?_
     change wpAnyH _ _ _ _ _ _ _ _ (World.drew _)
     refine takeH 0 (v := ?_) rfl (by kernel_rfl) (by kernel_rfl) (by kernel_rfl) (fun _ _ _ h => h) (by rfl) hS ?_ ?_
     rotate_left
     ·(intro wz hSw; obtain ⟨z0, z1, z2⟩ := hSe.out _ hSw; go_simp; try with_reducible rfl)
     try simp only [Act.put, List.setIfInBounds_toArray, List.set_cons_zero, List.set_cons_succ]
     refine takeH 2 (v := ?_) rfl (by kernel_rfl) (by kernel_rfl) (by kernel_rfl) (fun _ _ _ h => h) (by rfl) hS ?_ ?_
     rotate_left
     ·(intro wz hSw; obtain ⟨z0, z1, z2⟩ := hSe.out _ hSw; go_simp; try with_reducible rfl)
     try simp only [Act.put, List.setIfInBounds_toArray, List.set_cons_zero, List.set_cons_succ]
     refine takeH 3 (v := ?_) rfl (by kernel_rfl) (by kernel_rfl) (by kernel_rfl) (fun _ _ _ h => h) (by rfl) hS ?_ ?_
     rotate_left
     ·(intro wz hSw; obtain ⟨z0, z1, z2⟩ := hSe.out _ hSw; go_simp; try with_reducible rfl)
     try simp only [Act.put, List.setIfInBounds_toArray, List.set_cons_zero, List.set_cons_succ]
     refine takeH 5 (v := ?_) rfl (by kernel_rfl) (by kernel_rfl) (by kernel_rfl) (fun _ _ _ h => h) (by rfl) hS ?_ ?_
     rotate_left
     ·(intro wz hSw; obtain ⟨z0, z1, z2⟩ := hSe.out _ hSw; go_simp; try with_reducible rfl)
     try simp only [Act.put, List.setIfInBounds_toArray, List.set_cons_zero, List.set_cons_succ]
     refine takeH 6 (v := ?_) rfl (by kernel_rfl) (by kernel_rfl) (by kernel_rfl) (fun _ _ _ h => h) (by rfl) hS ?_ ?_
     rotate_left
     ·(intro wz hSw; obtain ⟨z0, z1, z2⟩ := hSe.out _ hSw; go_simp; try with_reducible rfl)
     try simp only [Act.put, List.setIfInBounds_toArray, List.set_cons_zero, List.set_cons_succ]
     refine takeH 9 (v := ?_) rfl (by kernel_rfl) (by kernel_rfl) (by kernel_rfl) (fun _ _ _ h => h) (by rfl) hS ?_ ?_
     rotate_left
     ·(intro wz hSw; obtain ⟨z0, z1, z2⟩ := hSe.out _ hSw; go_simp; try with_reducible rfl)
     try simp only [Act.put, List.setIfInBounds_toArray, List.set_cons_zero, List.set_cons_succ]
     refine takeH 1 (v := .slice (some ⟨g, 0, none⟩) np j8) rfl (by kernel_rfl) (by kernel_rfl) (by kernel_rfl) (fun _ _ _ h => h) (by rfl) hS ?_ ?_
     ·(intro wz hSw; obtain ⟨z0, z1, z2⟩ := hSe.out _ hSw; go_simp)
     try simp only [Act.put, List.setIfInBounds_toArray, List.set_cons_zero, List.set_cons_succ]
     refine takeH 4 (v := .slice (some ⟨g, 0, none⟩) np j8) rfl (by kernel_rfl) (by kernel_rfl) (by kernel_rfl) (fun _ _ _ h => h) (by rfl) hS ?_ ?_
     ·(intro wz hSw; obtain ⟨z0, z1, z2⟩ := hSe.out _ hSw; go_simp)
     try simp only [Act.put, List.setIfInBounds_toArray, List.set_cons_zero, List.set_cons_succ]
     refine takeH 7 (v := .slice pA ps.length pc) rfl (by kernel_rfl) (by kernel_rfl) (by kernel_rfl) (fun _ _ _ h => h) (by rfl) hS ?_ ?_
     ·(intro wz hSw; obtain ⟨z0, z1, z2⟩ := hSe.out _ hSw; go_simp)
     try simp only [Act.put, List.setIfInBounds_toArray, List.set_cons_zero, List.set_cons_succ]
     refine takeH 10 (v := .slice bA body.length bc) rfl (by kernel_rfl) (by kernel_rfl) (by kernel_rfl) (fun _ _ _ h => h) (by rfl) hS ?_ ?_
     ·(intro wz hSw; obtain ⟨z0, z1, z2⟩ := hSe.out _ hSw; go_simp)
     try simp only [Act.put, List.setIfInBounds_toArray, List.set_cons_zero, List.set_cons_succ]
     refine callH 8 rfl (by kernel_rfl) (fun K hK => ?_)
     go_simp
     go_wp2_with (go_at_call 97; refine (hcP.out Wy.drew hBy.drew).mono ?_; rintro e w6 ⟨⟨qA, qc⟩, rfl, hRQ, hU⟩)
     have hB6 := below_undrew hU
     have hRQ : Ldc.own w6 Wy.heap.size ⟨qA, qc⟩ ps := hRQ
     have hBy6 := below_and hBy hB6
     have hbe6 := hbe.below hB6 hbel
     have hby6 := hby.below hB6 hby.lt
     have hrow6 := own_only hrowy (only_of_below [] hB6) (by simp)
     clear hU
     refine hK.out _ _ (hSi.out _ ⟨hby6.cell 13, hbe6.cell 1, hbe6.cell 2⟩) (fun hSn => ?_)
     clear hK K hS
     have hS := hSn
     clear hSn
     refine callH 11 rfl (by kernel_rfl) (fun K hK => ?_)
     go_simp
     go_wp2_with (go_at_call 88; refine (hcQ.out w6 hBy6).mono ?_; rintro e w7 ⟨tA, tc, newsT, rfl, hTl, hTp, hTo, hTn, hB7⟩)
     have hbe7 := hbe6.below hB7 hbe6.lt
     have hby7 := hby6.below hB7 hby6.lt
     have hrow7 := own_only hrow6 (only_of_below [] hB7) (by simp)
     refine hK.out _ _ (hSi.out _ ⟨hby7.cell 13, hbe7.cell 1, hbe7.cell 2⟩) (fun hSn => ?_)
     clear hK K hS
     have hS := hSn
     clear hSn
     refine takeH 12 (v := .pointer (some ⟨g, q * 3, none⟩)) rfl (by kernel_rfl) (by kernel_rfl) (by kernel_rfl) (fun _ _ _ h => h) (by rfl) hS ?_ ?_
     ·(intro wz hSw; obtain ⟨z0, z1, z2⟩ := hSe.out _ hSw; go_simp)
     try simp only [Act.put, List.setIfInBounds_toArray, List.set_cons_zero, List.set_cons_succ]
     refine takeH 13 (v := .pointer (some ⟨g, q * 3 + 1, none⟩)) rfl (by kernel_rfl) (by kernel_rfl) (by kernel_rfl) (fun _ _ _ h => h) (by rfl) hS ?_ ?_
     ·(intro wz hSw; obtain ⟨z0, z1, z2⟩ := hSe.out _ hSw; go_simp)
     try simp only [Act.put, List.setIfInBounds_toArray, List.set_cons_zero, List.set_cons_succ]
     refine callH 14 rfl (by kernel_rfl) (fun K hK => ?_)
     have hgl7 := (own_at hrow7 hpre'.out 1 rfl)
     obtain ⟨g1, f1, l1⟩ := hgl7
     have hrow8 := own_put_at hrow7 hpre'.out 1 (by simp) (.slice qA ps.length qc)
     have hbe8 := hbe7.far (p := ⟨g, q * 3 + 1, none⟩) (by simp; omega) (.slice qA ps.length qc)
     have hby8 := hby7.far (p := ⟨g, q * 3 + 1, none⟩) (by simpa using hng) (.slice qA ps.length qc)
     simp only [List.set_cons_zero, List.set_cons_succ] at hrow8
     go_simp
     go_wp2_with fail
     clear g1 f1 l1
     refine hK.out _ _ (hSi.out _ ⟨hby8.cell 13, hbe8.cell 1, hbe8.cell 2⟩) (fun hSn => ?_)
     clear hK K hS
     have hS := hSn
     clear hSn
     refine takeH 15 (v := .pointer (some ⟨g, q * 3, none⟩)) rfl (by kernel_rfl) (by kernel_rfl) (by kernel_rfl) (fun _ _ _ h => h) (by rfl) hS ?_ ?_
     ·(intro wz hSw; obtain ⟨z0, z1, z2⟩ := hSe.out _ hSw; go_simp)
     try simp only [Act.put, List.setIfInBounds_toArray, List.set_cons_zero, List.set_cons_succ]
     refine takeH 16 (v := .pointer (some ⟨g, q * 3 + 2, none⟩)) rfl (by kernel_rfl) (by kernel_rfl) (by kernel_rfl) (fun _ _ _ h => h) (by rfl) hS ?_ ?_
     ·(intro wz hSw; obtain ⟨z0, z1, z2⟩ := hSe.out _ hSw; go_simp)
     try simp only [Act.put, List.setIfInBounds_toArray, List.set_cons_zero, List.set_cons_succ]
     refine callH 17 rfl (by kernel_rfl) (fun K hK => ?_)
     obtain ⟨g2, f2, l2⟩ := (own_at hrow8 hpre'.out 2 rfl)
     have hrow9 := own_put_at hrow8 hpre'.out 2 (by simp) (.slice tA body.length tc)
     have hbe9 := hbe8.far (p := ⟨g, q * 3 + 2, none⟩) (by simp; omega) (.slice tA body.length tc)
     have hby9 := hby8.far (p := ⟨g, q * 3 + 2, none⟩) (by simpa using hng) (.slice tA body.length tc)
     simp only [List.set_cons_zero, List.set_cons_succ] at hrow9
     go_simp
     go_wp2_with fail
     clear g2 f2 l2
     refine hK.out _ _ (hSi.out _ ⟨hby9.cell 13, hbe9.cell 1, hbe9.cell 2⟩) (fun hSn => ?_)
     clear hK K hS
     have hS := hSn
     clear hSn
     refine wpAnyH_done (by kernel_rfl) ?_ _
     have hgo : Only [g] w7 ((w7.setCell ⟨g, q * 3 + 1, none⟩ (.slice qA ps.length qc)).setCell ⟨g, q * 3 + 2, none⟩ (.slice tA body.length tc)) := ((Only.refl _ _).setCell (.inl (by simp)) _).setCell (.inl (by simp)) _
     generalize ((w7.setCell ⟨g, q * 3 + 1, none⟩ (.slice qA ps.length qc)).setCell ⟨g, q * 3 + 2, none⟩ (.slice tA body.length tc)) = w9 at *
     clear hS hSi hSe
     clear S
     have hN := hN'.out
     have hgn : g ∉ fpsP newsP := fun h => by have := hN.ge g h; omega
     have hQge := hRQ.ge
     have hTge := hTo.ge
     have hs67 : w6.heap.size ≤ w7.heap.size := hB7.size
     have hQ9 : Ldc.own w9 Wy.heap.size ⟨qA, qc⟩ ps := (keep_ldc _ _ _).only ((keep_ldc _ _ _).new hRQ hB7) hgo (fun b hb hm => by rw [List.mem_singleton] at hm; have : Wy.heap.size ≤ b := (hQge b hb).1; omega)
     have hB6s : Wy.heap.size ≤ w6.heap.size := hB6.size
     have hT9 : Lst.own eT w9 w6.heap.size ⟨tA, tc⟩ newsT := hTo.keep hgo (fun b hb hm => by rw [List.mem_singleton] at hm; have : w6.heap.size ≤ b := (hTge b hb).1; omega)
     have hfin : NPr w.heap.size procs (some ⟨g, 0, none⟩) j8 np (q + 1) (newsP ++ [⟨xn, ⟨qA, qc⟩, ps, ⟨tA, tc⟩, newsT⟩]) wv w9 := by
      refine ⟨by omega, by rw [List.length_append, hN.len]; rfl, ?_, ?_, ?_, ?_, ?_, ?_⟩
      ·rw [htk'.out, List.map_append, hN.pl, List.map_cons, List.map_nil]
       simp only [Pr.plain, hTp]
      ·rw [List.append_assoc, cellsP_append]
       have h1 : w9.ownsRow w.heap.size 64 3 (.slice (some ⟨g, 0, none⟩) np j8) np (cellsP newsP ++ ([.string xn, .slice qA ps.length qc, .slice tA newsT.length tc] ++ cellsP (procs.drop (q + 1)))) := by rw [hTl]; exact hrow9
       exact h1
      ·intro y hy
       rcases List.mem_append.1 hy with hy | hy
       ·exact (keep_ownsP _ newsP).only ((keep_ownsP _ newsP).new ((keep_ownsP _ newsP).new ((keep_ownsP _ newsP).new hN.own hBx) hB6) hB7) hgo (fun b hb hm => by rw [List.mem_singleton] at hm; rw [hm] at hb; exact hgn hb) y hy
       ·rw [List.mem_singleton] at hy; rw [hy]
        exact ⟨hQ9.base_le hBy.size, hT9.base_le (Nat.le_trans hBy.size hB6s)⟩
      ·rw [fpsP_append]
       refine nodup_at hN.nd (B := Wy.heap.size) ?_ (fun b hb => by have := (ownsP_ge hN.own b hb).2; omega) (fun b hb => ?_)
       ·have h1 : fpsP [⟨xn, ⟨qA, qc⟩, ps, ⟨tA, tc⟩, newsT⟩] = (Loc.mk qA qc).fp ++ Lst.fp ⟨tA, tc⟩ newsT := by simp [fpsP, Pr.fp]
        rw [h1]
        exact nodup_at (Loc.fp_nodup _) hTn (B := w6.heap.size) (fun b hb => (hQge b hb).2) (fun b hb => (hTge b hb).1)
       ·have h1 : fpsP [⟨xn, ⟨qA, qc⟩, ps, ⟨tA, tc⟩, newsT⟩] = (Loc.mk qA qc).fp ++ Lst.fp ⟨tA, tc⟩ newsT := by simp [fpsP, Pr.fp]
        rw [h1] at hb
        rcases List.mem_append.1 hb with hb | hb
        ·exact (hQge b hb).1
        ·exact Nat.le_trans hB6s (hTge b hb).1
      ·exact hN.on.trans ((((only_of_below [g] hBx).trans (only_of_below [g] hB6)).trans (only_of_below [g] hB7)).trans hgo)
      ·intro b hb
       rw [fpsP_append] at hb
       rcases List.mem_append.1 hb with hb | hb
       ·exact hN.ge b hb
       ·have h1 : fpsP [⟨xn, ⟨qA, qc⟩, ps, ⟨tA, tc⟩, newsT⟩] = (Loc.mk qA qc).fp ++ Lst.fp ⟨tA, tc⟩ newsT := by simp [fpsP, Pr.fp]
        rw [h1] at hb
        have h2 := hN.on.size
        rcases List.mem_append.1 hb with hb | hb
        ·have : Wy.heap.size ≤ b := (hQge b hb).1; omega
        ·have : w6.heap.size ≤ b := (hTge b hb).1; omega
     replace hfin := Lib.hid hfin
     clear hN hgn hQge hTge hs67 hQ9 hB6s hT9 hrowy hrow6 hrow7 hrow8 hrow9 hgo hB6 hB7 hbe hbe6 hbe7 hbe8 hbe9 hby hby6 hby7 hby8 hby9 hBx hRQ hTo hTn hTl hTp
     go_wp2_with fail
     go_roundw
     case rel => exact ⟨q + 1, _, by go_num, hfin.out⟩
     case measure => simp [intOf]; omega
    ·obtain rfl : q = np := by omega
     have hQn : newsP.length = q := hN.len
     have hQp : newsP.map Pr.plain = procs.map Pr.plain := by rw [hN.pl, hnp'.out, List.take_length]
     have hQi : Lpr.own wr w.heap.size ⟨J8, j8⟩ newsP := by
      have h1 := hN.row
      rw [List.drop_eq_nil_of_le (by rw [← hnp'.out]; omega), List.append_nil] at h1
      refine ⟨?_, hN.own⟩
      rw [hQn]
      exact h1
     have hLi6 := (keep_lin _ _ _).only hLi hN.on (fun b hb hm => by
      have h1 := hP4 b hm
      rcases List.mem_append.1 hb with hb | hb
      ·have := hI4 b hb; omega
      ·have := hLge b hb; omega)
     have hX6 := hX5a.only hN.on (fun b hb hm => by have := hX3lt b hb; have := hP4 b hm; omega)
     have hLfn : (Lin.fp ⟨J7, j7⟩ news).Nodup := nodup_at (Loc.fp_nodup _) hLnd (B := W4.heap.size) (fun b hb => by have := hI4 b hb; omega) hLge
     have hQfn : (Lpr.fp ⟨J8, j8⟩ newsP).Nodup := nodup_at (Loc.fp_nodup _) hN.nd (B := wv.heap.size) (fun b hb => by have := hP4 b hb; omega) hN.ge
     obtain ⟨X7, bs7, hX7, hbs7, ho7⟩ := hX6.addD (keep_lin _ _ _) hLi6 hLfn (fun b hb hm => by
      have h1 := hX3lt b hb
      rcases List.mem_append.1 hm with hm | hm
      ·have := hI4 b hm; omega
      ·have := hLge b hm; omega) (fun b hb => by
      rcases List.mem_append.1 hb with hb | hb
      ·have := hI4 b hb; omega
      ·have := hLge b hb; omega)
     have hNge := hN.ge
     obtain ⟨X8, bs8, hX8, hbs8, ho8⟩ := hX7.addD (keep_lpr _ _ _) hQi hQfn (fun b hb hm => by
      rw [hbs7] at hb
      rcases List.mem_append.1 hb with hb | hb
      ·have h1 := hX3lt b hb
       rcases List.mem_append.1 hm with hm | hm
       ·have := hP4 b hm; omega
       ·have := hNge b hm; omega
      ·rcases List.mem_append.1 hb with hb | hb
       ·have h2 := hI4 b hb
        rcases List.mem_append.1 hm with hm | hm
        ·have := hP4 b hm; omega
        ·have := hNge b hm; omega
       ·have h2 := hLge b hb
        have h3 := hLlt b (List.mem_append_right _ hb)
        rcases List.mem_append.1 hm with hm | hm
        ·have := hP4 b hm; omega
        ·have := hNge b hm; omega) (fun b hb => by
      rcases List.mem_append.1 hb with hb | hb
      ·have := hP4 b hb; omega
      ·have := hNge b hb; omega)
     replace hbs7 := Lib.hid hbs7
     replace hbs8 := Lib.hid hbs8
     replace ho7 := Lib.hid ho7
     replace ho8 := Lib.hid ho8
     replace hQn := Lib.hid hQn
     replace hQp := Lib.hid hQp
     clear hN hX7 hX6 hX5a hLi hLi6 hQi hLfn hQfn hLnd hNge hLge hLlt hX3lt hI4 hP4 hbr hBr hlt hkn hPn
     rename World => wz
     go_upto_region 15 with (fail)
     obtain ⟨S, hSi, hSe⟩ : ∃ S : World → Prop, (∀ W, (W.cell? ⟨w.heap.size, 6, none⟩ = some (.int .u8 rk) ∧ W.cell? ⟨w.heap.size, 7, none⟩ = some (.int .u8 ro) ∧ W.cell? ⟨w.heap.size, 8, none⟩ = some (.int .u32 rv) ∧ W.cell? ⟨w.heap.size, 9, none⟩ = some (.int .i64 rwd) ∧ W.cell? ⟨w.heap.size, 10, none⟩ = some (.string rn) ∧ W.cell? ⟨w.heap.size, 11, none⟩ = some (.slice rA rs.length rc) ∧ W.cell? ⟨w.heap.size, 16, none⟩ = some (.int .u8 ik) ∧ W.cell? ⟨w.heap.size, 17, none⟩ = some (.int .u8 io) ∧ W.cell? ⟨w.heap.size, 18, none⟩ = some (.int .u32 iv) ∧ W.cell? ⟨w.heap.size, 19, none⟩ = some (.int .i64 iwd) ∧ W.cell? ⟨w.heap.size, 20, none⟩ = some (.string inn) ∧ W.cell? ⟨w.heap.size, 21, none⟩ = some (.slice iA is.length ic)) → S W) ∧ (∀ W, S W → (W.cell? ⟨w.heap.size, 6, none⟩ = some (.int .u8 rk) ∧ W.cell? ⟨w.heap.size, 7, none⟩ = some (.int .u8 ro) ∧ W.cell? ⟨w.heap.size, 8, none⟩ = some (.int .u32 rv) ∧ W.cell? ⟨w.heap.size, 9, none⟩ = some (.int .i64 rwd) ∧ W.cell? ⟨w.heap.size, 10, none⟩ = some (.string rn) ∧ W.cell? ⟨w.heap.size, 11, none⟩ = some (.slice rA rs.length rc) ∧ W.cell? ⟨w.heap.size, 16, none⟩ = some (.int .u8 ik) ∧ W.cell? ⟨w.heap.size, 17, none⟩ = some (.int .u8 io) ∧ W.cell? ⟨w.heap.size, 18, none⟩ = some (.int .u32 iv) ∧ W.cell? ⟨w.heap.size, 19, none⟩ = some (.int .i64 iwd) ∧ W.cell? ⟨w.heap.size, 20, none⟩ = some (.string inn) ∧ W.cell? ⟨w.heap.size, 21, none⟩ = some (.slice iA is.length ic))) := ⟨fun W => W.cell? ⟨w.heap.size, 6, none⟩ = some (.int .u8 rk) ∧ W.cell? ⟨w.heap.size, 7, none⟩ = some (.int .u8 ro) ∧ W.cell? ⟨w.heap.size, 8, none⟩ = some (.int .u32 rv) ∧ W.cell? ⟨w.heap.size, 9, none⟩ = some (.int .i64 rwd) ∧ W.cell? ⟨w.heap.size, 10, none⟩ = some (.string rn) ∧ W.cell? ⟨w.heap.size, 11, none⟩ = some (.slice rA rs.length rc) ∧ W.cell? ⟨w.heap.size, 16, none⟩ = some (.int .u8 ik) ∧ W.cell? ⟨w.heap.size, 17, none⟩ = some (.int .u8 io) ∧ W.cell? ⟨w.heap.size, 18, none⟩ = some (.int .u32 iv) ∧ W.cell? ⟨w.heap.size, 19, none⟩ = some (.int .i64 iwd) ∧ W.cell? ⟨w.heap.size, 20, none⟩ = some (.string inn) ∧ W.cell? ⟨w.heap.size, 21, none⟩ = some (.slice iA is.length ic), fun _ h => h, fun _ h => h⟩
     have hS : S wz.drew := hSi _ ⟨hbz.cell 6, hbz.cell 7, hbz.cell 8, hbz.cell 9, hbz.cell 10, hbz.cell 11, hbz.cell 16, hbz.cell 17, hbz.cell 18, hbz.cell 19, hbz.cell 20, hbz.cell 21⟩
     replace hSi := Lib.hid hSi
     replace hSe := Lib.hid hSe
     refine wp_region_T (S := S) (St := [7, 9]) (by kernel_rfl) ?_
     change wpAnyT _ _ _ _ _ _ _ _ _ (World.drew _)
     refine pureT 0 (v := ?_) rfl (by kernel_rfl) (by kernel_rfl) (by kernel_rfl) (by kernel_rfl) (fun _ _ _ h => h) (by rfl) (fun _ => hS) ?_ ?_
     rotate_left
     ·(intro wz; go_simp; try with_reducible rfl)
     try simp only [Act.put, List.setIfInBounds_toArray, List.set_cons_zero, List.set_cons_succ]
     refine pureT 3 (v := ?_) rfl (by kernel_rfl) (by kernel_rfl) (by kernel_rfl) (by kernel_rfl) (fun _ _ _ h => h) (by rfl) (fun _ => hS) ?_ ?_
     rotate_left
     ·(intro wz; go_simp; try with_reducible rfl)
     try simp only [Act.put, List.setIfInBounds_toArray, List.set_cons_zero, List.set_cons_succ]
     refine takeT 1 (v := .agg #[.int .u8 rk, .int .u8 ro, .int .u32 rv, .int .i64 rwd, .string rn, .slice rA rs.length rc]) rfl (by kernel_rfl) (by kernel_rfl) (by kernel_rfl) (by kernel_rfl) (fun _ _ _ h => h) (by rfl) hS ?_ ?_
     ·(intro wz hSw; obtain ⟨z0, z1, z2, z3, z4, z5, z6, z7, z8, z9, z10, z11⟩ := hSe.out _ hSw; go_simp)
     try simp only [Act.put, List.setIfInBounds_toArray, List.set_cons_zero, List.set_cons_succ]
     refine takeT 4 (v := .agg #[.int .u8 ik, .int .u8 io, .int .u32 iv, .int .i64 iwd, .string inn, .slice iA is.length ic]) rfl (by kernel_rfl) (by kernel_rfl) (by kernel_rfl) (by kernel_rfl) (fun _ _ _ h => h) (by rfl) hS ?_ ?_
     ·(intro wz hSw; obtain ⟨z0, z1, z2, z3, z4, z5, z6, z7, z8, z9, z10, z11⟩ := hSe.out _ hSw; go_simp)
     try simp only [Act.put, List.setIfInBounds_toArray, List.set_cons_zero, List.set_cons_succ]
     refine callT 2 rfl (by kernel_rfl) (fun K hK => ?_)
     go_simp
     go_wp2_with (go_at_call 82; refine (hNR.out wz.drew hBz.drew).mono ?_; rintro e w3 ⟨zk, zo, zv, zw, zn, zA, zc, zs, rfl, hZp, hZo, hZn, hU⟩)
     replace hU := below_undrew hU
     have hBz3 := below_and hBz hU
     have hbz3 := hbz.below hU hbz.lt
     obtain ⟨X9, bs9, hX9, hbs9, ho9⟩ := hX8.add hU (keep_ex eT w.heap.size _) (hZo.base_le hBz.size) hZn (fun b hb => (hZo.ge b hb).1) hbz.lt
     replace hbs9 := Lib.hid hbs9
     replace ho9 := Lib.hid ho9
     replace hZp := Lib.hid hZp
     clear hZo hZn hU hX8
     refine hK.out _ _ (hSi.out _ ⟨hbz3.cell 6, hbz3.cell 7, hbz3.cell 8, hbz3.cell 9, hbz3.cell 10, hbz3.cell 11, hbz3.cell 16, hbz3.cell 17, hbz3.cell 18, hbz3.cell 19, hbz3.cell 20, hbz3.cell 21⟩) (fun hSn => ?_)
     clear hK K hS
     have hS := hSn
     clear hSn
     refine pureT 6 (v := ?_) rfl (by kernel_rfl) (by kernel_rfl) (by kernel_rfl) (by kernel_rfl) (fun _ _ _ h => h) (by rfl) (fun _ => hS) ?_ ?_
     rotate_left
     ·(intro wz; go_simp; try with_reducible rfl)
     try simp only [Act.put, List.setIfInBounds_toArray, List.set_cons_zero, List.set_cons_succ]
     refine callT 5 rfl (by kernel_rfl) (fun K hK => ?_)
     go_simp
     go_wp2_with (go_at_call 82; refine (hNV.out w3 hBz3).mono ?_; rintro e w4 ⟨yk, yo, yv, yw, yn, yA, yc, ys, rfl, hYp, hYo, hYn, hU⟩)
     have hBz4 := below_and hBz3 hU
     have hbz4 := hbz3.below hU hbz3.lt
     obtain ⟨X10, bs10, hX10, hbs10, ho10⟩ := hX9.add hU (keep_ex eT w.heap.size _) (hYo.base_le hBz3.size) hYn (fun b hb => (hYo.ge b hb).1) hbz3.lt
     replace hbs10 := Lib.hid hbs10
     replace ho10 := Lib.hid ho10
     replace hYp := Lib.hid hYp
     clear hYo hYn hU hX9
     refine hK.out _ _ (hSi.out _ ⟨hbz4.cell 6, hbz4.cell 7, hbz4.cell 8, hbz4.cell 9, hbz4.cell 10, hbz4.cell 11, hbz4.cell 16, hbz4.cell 17, hbz4.cell 18, hbz4.cell 19, hbz4.cell 20, hbz4.cell 21⟩) (fun hSn => ?_)
     clear hK K hS
     have hS := hSn
     clear hSn
     refine storeT 7 rfl (by kernel_rfl) (by kernel_rfl) (fun K hK => ?_)
     rw [if_pos (by rfl)]
     have hbA := ((((((hbz4.set_ 6 (.int .u8 zk)).set_ 7 (.int .u8 zo)).set_ 8 (.int .u32 zv)).set_ 9 (.int .i64 zw)).set_ 10 (.string zn)).set_ 11 (.slice zA zs.length zc))
     simp only [List.setIfInBounds_toArray, List.set_cons_zero, List.set_cons_succ] at hbA
     refine wp_store_six' 7 8 9 10 11 30 (.tmp 83) (.tmp 79) rfl w.heap.size 6 rfl rfl rfl rfl rfl (.int .u8 zk) (.int .u8 zo) (.int .u32 zv) (.int .i64 zw) (.string zn) (.slice zA zs.length zc) rfl rfl (there_blk_at hbz4 (by simp)) (by kernel_rfl) (by simp [Value.oneCell']) ?_
     refine hK.out _ _ ?_
     clear hK K
     have hofA : Only [w.heap.size] w4 ((((((w4.setCell ⟨w.heap.size, 6, none⟩ (.int .u8 zk)).setCell ⟨w.heap.size, 7, none⟩ (.int .u8 zo)).setCell ⟨w.heap.size, 8, none⟩ (.int .u32 zv)).setCell ⟨w.heap.size, 9, none⟩ (.int .i64 zw)).setCell ⟨w.heap.size, 10, none⟩ (.string zn)).setCell ⟨w.heap.size, 11, none⟩ (.slice zA zs.length zc)) := (((((((Only.refl [w.heap.size] w4).setCell (.inl (by simp)) (.int .u8 zk)).setCell (.inl (by simp)) (.int .u8 zo)).setCell (.inl (by simp)) (.int .u32 zv)).setCell (.inl (by simp)) (.int .i64 zw)).setCell (.inl (by simp)) (.string zn)).setCell (.inl (by simp)) (.slice zA zs.length zc))
     generalize ((((((w4.setCell ⟨w.heap.size, 6, none⟩ (.int .u8 zk)).setCell ⟨w.heap.size, 7, none⟩ (.int .u8 zo)).setCell ⟨w.heap.size, 8, none⟩ (.int .u32 zv)).setCell ⟨w.heap.size, 9, none⟩ (.int .i64 zw)).setCell ⟨w.heap.size, 10, none⟩ (.string zn)).setCell ⟨w.heap.size, 11, none⟩ (.slice zA zs.length zc)) = wA at *
     refine pureT 8 (v := ?_) rfl (by kernel_rfl) (by kernel_rfl) (by kernel_rfl) (by kernel_rfl) (fun _ _ _ h => h) (by rfl) (nomore (by kernel_rfl)) ?_ ?_
     rotate_left
     ·(intro wz; go_simp; try with_reducible rfl)
     try simp only [Act.put, List.setIfInBounds_toArray, List.set_cons_zero, List.set_cons_succ]
     refine storeT 9 rfl (by kernel_rfl) (by kernel_rfl) (fun K hK => ?_)
     rw [if_pos (by rfl)]
     have hbB := ((((((hbA.set_ 16 (.int .u8 yk)).set_ 17 (.int .u8 yo)).set_ 18 (.int .u32 yv)).set_ 19 (.int .i64 yw)).set_ 20 (.string yn)).set_ 21 (.slice yA ys.length yc))
     simp only [List.setIfInBounds_toArray, List.set_cons_zero, List.set_cons_succ] at hbB
     refine wp_store_six' 17 18 19 20 21 30 (.tmp 84) (.tmp 82) rfl w.heap.size 16 rfl rfl rfl rfl rfl (.int .u8 yk) (.int .u8 yo) (.int .u32 yv) (.int .i64 yw) (.string yn) (.slice yA ys.length yc) rfl rfl (there_blk_at hbA (by simp)) (by kernel_rfl) (by simp [Value.oneCell']) ?_
     refine hK.out _ _ ?_
     clear hK K
     refine wpAnyT_done (by kernel_rfl) ?_ _
     have hof : Only [w.heap.size] w4 ((((((wA.setCell ⟨w.heap.size, 16, none⟩ (.int .u8 yk)).setCell ⟨w.heap.size, 17, none⟩ (.int .u8 yo)).setCell ⟨w.heap.size, 18, none⟩ (.int .u32 yv)).setCell ⟨w.heap.size, 19, none⟩ (.int .i64 yw)).setCell ⟨w.heap.size, 20, none⟩ (.string yn)).setCell ⟨w.heap.size, 21, none⟩ (.slice yA ys.length yc)) := hofA.trans ((((((((Only.refl [w.heap.size] wA).setCell (.inl (by simp)) (.int .u8 yk)).setCell (.inl (by simp)) (.int .u8 yo)).setCell (.inl (by simp)) (.int .u32 yv)).setCell (.inl (by simp)) (.int .i64 yw)).setCell (.inl (by simp)) (.string yn)).setCell (.inl (by simp)) (.slice yA ys.length yc)))
     have hX11 := hX10.cell hof
     have hB11 : Below w.heap.size w ((((((wA.setCell ⟨w.heap.size, 16, none⟩ (.int .u8 yk)).setCell ⟨w.heap.size, 17, none⟩ (.int .u8 yo)).setCell ⟨w.heap.size, 18, none⟩ (.int .u32 yv)).setCell ⟨w.heap.size, 19, none⟩ (.int .i64 yw)).setCell ⟨w.heap.size, 20, none⟩ (.string yn)).setCell ⟨w.heap.size, 21, none⟩ (.slice yA ys.length yc)) := hBz4.trans (hof.below hBz4.size (by simp))
     clear hX10 hBz4 hBz3 hBz hbz hbz3 hbz4 hbA hof hofA hS hSi hSe hlz
     clear S
     generalize ((((((wA.setCell ⟨w.heap.size, 16, none⟩ (.int .u8 yk)).setCell ⟨w.heap.size, 17, none⟩ (.int .u8 yo)).setCell ⟨w.heap.size, 18, none⟩ (.int .u32 yv)).setCell ⟨w.heap.size, 19, none⟩ (.int .i64 yw)).setCell ⟨w.heap.size, 20, none⟩ (.string yn)).setCell ⟨w.heap.size, 21, none⟩ (.slice yA ys.length yc)) = w5 at *
     go_upto_region 16 with (fail)
     obtain ⟨S, hSi, hSe⟩ : ∃ S : World → Prop, (∀ W, (W.cell? ⟨w.heap.size, 14, none⟩ = some (.slice A9 work.length c9) ∧ W.cell? ⟨w.heap.size, 15, none⟩ = some (.slice A10 recov.length c10)) → S W) ∧ (∀ W, S W → (W.cell? ⟨w.heap.size, 14, none⟩ = some (.slice A9 work.length c9) ∧ W.cell? ⟨w.heap.size, 15, none⟩ = some (.slice A10 recov.length c10))) := ⟨fun W => W.cell? ⟨w.heap.size, 14, none⟩ = some (.slice A9 work.length c9) ∧ W.cell? ⟨w.heap.size, 15, none⟩ = some (.slice A10 recov.length c10), fun _ h => h, fun _ h => h⟩
     have hS : S w5.drew := hSi _ ⟨hbB.cell 14, hbB.cell 15⟩
     replace hSi := Lib.hid hSi
     replace hSe := Lib.hid hSe
     refine wp_region_T (S := S) (St := [7, 9]) (by kernel_rfl) ?_
     change wpAnyT _ _ _ _ _ _ _ _ _ (World.drew _)
     refine pureT 0 (v := ?_) rfl (by kernel_rfl) (by kernel_rfl) (by kernel_rfl) (by kernel_rfl) (fun _ _ _ h => h) (by rfl) (fun _ => hS) ?_ ?_
     rotate_left
     ·(intro wz; go_simp; try with_reducible rfl)
     try simp only [Act.put, List.setIfInBounds_toArray, List.set_cons_zero, List.set_cons_succ]
     refine pureT 3 (v := ?_) rfl (by kernel_rfl) (by kernel_rfl) (by kernel_rfl) (by kernel_rfl) (fun _ _ _ h => h) (by rfl) (fun _ => hS) ?_ ?_
     rotate_left
     ·(intro wz; go_simp; try with_reducible rfl)
     try simp only [Act.put, List.setIfInBounds_toArray, List.set_cons_zero, List.set_cons_succ]
     refine takeT 1 (v := .slice A9 work.length c9) rfl (by kernel_rfl) (by kernel_rfl) (by kernel_rfl) (by kernel_rfl) (fun _ _ _ h => h) (by rfl) hS ?_ ?_
     ·(intro wz hSw; obtain ⟨z0, z1⟩ := hSe.out _ hSw; go_simp)
     try simp only [Act.put, List.setIfInBounds_toArray, List.set_cons_zero, List.set_cons_succ]
     refine takeT 4 (v := .slice A10 recov.length c10) rfl (by kernel_rfl) (by kernel_rfl) (by kernel_rfl) (by kernel_rfl) (fun _ _ _ h => h) (by rfl) hS ?_ ?_
     ·(intro wz hSw; obtain ⟨z0, z1⟩ := hSe.out _ hSw; go_simp)
     try simp only [Act.put, List.setIfInBounds_toArray, List.set_cons_zero, List.set_cons_succ]
     refine callT 2 rfl (by kernel_rfl) (fun K hK => ?_)
     go_simp
     go_wp2_with (go_at_call 88; refine (hNW.out w5.drew hB11.drew).mono ?_; rintro e w6 ⟨tA, tc, newsW, rfl, hTl, hTp, hTo, hTn, hU⟩)
     replace hU := below_undrew hU
     have hB12 := below_and hB11 hU
     have hb12 := hbB.below hU hbB.lt
     obtain ⟨X12, bs12, hX12, hbs12, ho12⟩ := hX11.add hU (keep_lst eT w.heap.size _ _) (hTo.base_le hB11.size) hTn (fun b hb => (hTo.ge b hb).1) hbB.lt
     replace hbs12 := Lib.hid hbs12
     replace ho12 := Lib.hid ho12
     replace hTp := Lib.hid hTp
     replace hTl := Lib.hid hTl
     clear hTo hTn hU hX11
     refine hK.out _ _ (hSi.out _ ⟨hb12.cell 14, hb12.cell 15⟩) (fun hSn => ?_)
     clear hK K hS
     have hS := hSn
     clear hSn
     refine pureT 6 (v := ?_) rfl (by kernel_rfl) (by kernel_rfl) (by kernel_rfl) (by kernel_rfl) (fun _ _ _ h => h) (by rfl) (fun _ => hS) ?_ ?_
     rotate_left
     ·(intro wz; go_simp; try with_reducible rfl)
     try simp only [Act.put, List.setIfInBounds_toArray, List.set_cons_zero, List.set_cons_succ]
     refine callT 5 rfl (by kernel_rfl) (fun K hK => ?_)
     go_simp
     go_wp2_with (go_at_call 88; refine (hNX.out w6 hB12).mono ?_; rintro e w7 ⟨uA, uc, newsR, rfl, hUl, hUp, hUo, hUn, hU⟩)
     have hB13 := below_and hB12 hU
     have hb13 := hb12.below hU hb12.lt
     obtain ⟨X13, bs13, hX13, hbs13, ho13⟩ := hX12.add hU (keep_lst eT w.heap.size _ _) (hUo.base_le hB12.size) hUn (fun b hb => (hUo.ge b hb).1) hb12.lt
     replace hbs13 := Lib.hid hbs13
     replace ho13 := Lib.hid ho13
     replace hUp := Lib.hid hUp
     replace hUl := Lib.hid hUl
     clear hUo hUn hU hX12
     refine hK.out _ _ (hSi.out _ ⟨hb13.cell 14, hb13.cell 15⟩) (fun hSn => ?_)
     clear hK K hS
     have hS := hSn
     clear hSn
     refine storeT 7 rfl (by kernel_rfl) (by kernel_rfl) (fun K hK => ?_)
     have g14 := hb13.cell 14
     have f14 := hb13.frozen 14
     have l14 := hb13.lt
     have hs14 := hb13.set_ 14 (.slice tA work.length tc)
     simp only [List.setIfInBounds_toArray, List.set_cons_zero, List.set_cons_succ] at hs14
     go_simp
     go_wp2_with fail
     clear g14 f14 l14
     refine hK.out _ _ ?_
     clear hK K
     refine pureT 8 (v := ?_) rfl (by kernel_rfl) (by kernel_rfl) (by kernel_rfl) (by kernel_rfl) (fun _ _ _ h => h) (by rfl) (nomore (by kernel_rfl)) ?_ ?_
     rotate_left
     ·(intro wz; go_simp; try with_reducible rfl)
     try simp only [Act.put, List.setIfInBounds_toArray, List.set_cons_zero, List.set_cons_succ]
     refine storeT 9 rfl (by kernel_rfl) (by kernel_rfl) (fun K hK => ?_)
     have g15 := hs14.cell 15
     have f15 := hs14.frozen 15
     have l15 := hs14.lt
     have hs15 := hs14.set_ 15 (.slice uA recov.length uc)
     simp only [List.setIfInBounds_toArray, List.set_cons_zero, List.set_cons_succ] at hs15
     go_simp
     go_wp2_with fail
     clear g15 f15 l15
     refine hK.out _ _ ?_
     clear hK K
     refine wpAnyT_done (by kernel_rfl) ?_ _
     have hof : Only [w.heap.size] w7 ((w7.setCell ⟨w.heap.size, 14, none⟩ (.slice tA work.length tc)).setCell ⟨w.heap.size, 15, none⟩ (.slice uA recov.length uc)) := ((Only.refl [w.heap.size] w7).setCell (.inl (by simp)) (.slice tA work.length tc)).setCell (.inl (by simp)) (.slice uA recov.length uc)
     have hXe := hX13.cell hof
     have hBe : Below w.heap.size w ((w7.setCell ⟨w.heap.size, 14, none⟩ (.slice tA work.length tc)).setCell ⟨w.heap.size, 15, none⟩ (.slice uA recov.length uc)) := hB13.trans (hof.below hB13.size (by simp))
     clear hX13 hB13 hB12 hB11 hb12 hb13 hbB hs14 hof hS hSi hSe
     clear S
     generalize ((w7.setCell ⟨w.heap.size, 14, none⟩ (.slice tA work.length tc)).setCell ⟨w.heap.size, 15, none⟩ (.slice uA recov.length uc)) = w8 at *
     go_upto_region 17 with (fail)
     obtain ⟨hXw, hOr⟩ := ho13.out _ hXe.h
     obtain ⟨hXw, hOw⟩ := ho12.out _ hXw
     obtain ⟨hXw, hOv⟩ := ho10.out _ hXw
     obtain ⟨hXw, hOq⟩ := ho9.out _ hXw
     obtain ⟨hXw, hOp⟩ := ho8.out _ hXw
     obtain ⟨hXw, hOi⟩ := ho7.out _ hXw
     obtain ⟨hXw, hO5⟩ := ho5.out _ hXw
     obtain ⟨hXw, hO4⟩ := ho4.out _ hXw
     obtain ⟨hXw, hO3⟩ := ho3.out _ hXw
     obtain ⟨hXw, hO2⟩ := ho2.out _ hXw
     have hbR : Blk w8 (w.heap.size + 1) 35 #[.int .i64 0, .int .i64 0, .slice none 0 0, .slice none 0 0, .slice none 0 0, .slice none 0 0, .int .u8 0, .int .u8 0, .int .u32 0, .int .i64 0, .string ⟨#[]⟩, .slice none 0 0, .slice none 0 0, .slice none 0 0, .slice none 0 0, .slice none 0 0, .int .u8 0, .int .u8 0, .int .u32 0, .int .i64 0, .string ⟨#[]⟩, .slice none 0 0] := hXw
     have hnd := hXe.nd
     rw [hbs13.out, hbs12.out, hbs10.out, hbs9.out, hbs8.out, hbs7.out, hbs5.out, hbs4.out, hbs3.out, hbs2.out] at hnd
     obtain ⟨L, hL⟩ : ∃ L, L = (Pg.mk bl wd ⟨B2, d2⟩ ins ⟨B3, d3⟩ gh ⟨B4, d4⟩ va ⟨B5, d5⟩ ar (Ex.mk ⟨zk, zo, zv, zw, zn⟩ (⟨zA, zc⟩ : Loc) zs) ⟨J7, j7⟩ news ⟨J8, j8⟩ newsP ⟨tA, tc⟩ newsW ⟨uA, uc⟩ newsR (Ex.mk ⟨yk, yo, yv, yw, yn⟩ (⟨yA, yc⟩ : Loc) ys)) := ⟨_, rfl⟩
     have hown : L.own w8 w.heap.size := by
      rw [hL]
      exact ⟨hO2, hO3, hO4, hO5, hOq, hOi, hOp, hOw, hOr, hOv⟩
     have hperm : ((w.heap.size + 1) :: L.fp).Nodup := nodup_perm hnd (fun x => by
      rw [hL]
      simp only [Pg.fp, List.count_append, List.count_cons, List.count_nil]
      omega)
     obtain ⟨hRn, hLfp⟩ := List.nodup_cons.1 hperm
     have hpl : L.plain = PL := by
      rw [hPL.out, hL]
      simp only [Pg.plain, hZp.out, hYp.out, hTp.out, hUp.out, hLp.out, hQp.out]
     have hag : aggP L = .agg #[.int .i64 bl, .int .i64 wd, .slice B2 ins.length d2, .slice B3 gh.length d3, .slice B4 va.length d4, .slice B5 ar.length d5, .int .u8 zk, .int .u8 zo, .int .u32 zv, .int .i64 zw, .string zn, .slice zA zs.length zc, .slice J7 k j7, .slice J8 q j8, .slice tA work.length tc, .slice uA recov.length uc, .int .u8 yk, .int .u8 yo, .int .u32 yv, .int .i64 yw, .string yn, .slice yA ys.length yc] := by
      rw [hL]
      show Value.agg #[.int .i64 bl, .int .i64 wd, .slice B2 ins.length d2, .slice B3 gh.length d3, .slice B4 va.length d4, .slice B5 ar.length d5, .int .u8 zk, .int .u8 zo, .int .u32 zv, .int .i64 zw, .string zn, .slice zA zs.length zc, .slice J7 news.length j7, .slice J8 newsP.length j8, .slice tA newsW.length tc, .slice uA newsR.length uc, .int .u8 yk, .int .u8 yo, .int .u32 yv, .int .i64 yw, .string yn, .slice yA ys.length yc] = _
      rw [hLn.out, hQn.out, hTl.out, hUl.out]
     have hof : Only [w.heap.size + 1] w8 (w8.setCells (w.heap.size + 1) 0 [.int .i64 bl, .int .i64 wd, .slice B2 ins.length d2, .slice B3 gh.length d3, .slice B4 va.length d4, .slice B5 ar.length d5, .int .u8 zk, .int .u8 zo, .int .u32 zv, .int .i64 zw, .string zn, .slice zA zs.length zc, .slice J7 k j7, .slice J8 q j8, .slice tA work.length tc, .slice uA recov.length uc, .int .u8 yk, .int .u8 yo, .int .u32 yv, .int .i64 yw, .string yn, .slice yA ys.length yc]) := only_setCells _ _ _
     have hbf : Blk (w8.setCells (w.heap.size + 1) 0 [.int .i64 bl, .int .i64 wd, .slice B2 ins.length d2, .slice B3 gh.length d3, .slice B4 va.length d4, .slice B5 ar.length d5, .int .u8 zk, .int .u8 zo, .int .u32 zv, .int .i64 zw, .string zn, .slice zA zs.length zc, .slice J7 k j7, .slice J8 q j8, .slice tA work.length tc, .slice uA recov.length uc, .int .u8 yk, .int .u8 yo, .int .u32 yv, .int .i64 yw, .string yn, .slice yA ys.length yc]) (w.heap.size + 1) 35 #[.int .i64 bl, .int .i64 wd, .slice B2 ins.length d2, .slice B3 gh.length d3, .slice B4 va.length d4, .slice B5 ar.length d5, .int .u8 zk, .int .u8 zo, .int .u32 zv, .int .i64 zw, .string zn, .slice zA zs.length zc, .slice J7 k j7, .slice J8 q j8, .slice tA work.length tc, .slice uA recov.length uc, .int .u8 yk, .int .u8 yo, .int .u32 yv, .int .i64 yw, .string yn, .slice yA ys.length yc] := blk_setCells [.int .i64 bl, .int .i64 wd, .slice B2 ins.length d2, .slice B3 gh.length d3, .slice B4 va.length d4, .slice B5 ar.length d5, .int .u8 zk, .int .u8 zo, .int .u32 zv, .int .i64 zw, .string zn, .slice zA zs.length zc, .slice J7 k j7, .slice J8 q j8, .slice tA work.length tc, .slice uA recov.length uc, .int .u8 yk, .int .u8 yo, .int .u32 yv, .int .i64 yw, .string yn, .slice yA ys.length yc] [.int .i64 0, .int .i64 0, .slice none 0 0, .slice none 0 0, .slice none 0 0, .slice none 0 0, .int .u8 0, .int .u8 0, .int .u32 0, .int .i64 0, .string ⟨#[]⟩, .slice none 0 0, .slice none 0 0, .slice none 0 0, .slice none 0 0, .slice none 0 0, .int .u8 0, .int .u8 0, .int .u32 0, .int .i64 0, .string ⟨#[]⟩, .slice none 0 0] [] [] 0 w8 hbR rfl rfl
     have hownf := (keep_pg _ L).only hown hof (fun b hb hm => by rw [List.mem_singleton] at hm; rw [hm] at hb; exact hRn hb)
     have hBf := hBe.trans (hof.below hBe.size (by simp))
     replace hag := Lib.hid hag
     replace hpl := Lib.hid hpl
     replace hownf := Lib.hid hownf
     clear hOr hOw hOv hOq hOp hOi hO5 hO4 hO3 hO2 hXe hnd hown hperm hRn hXw hof
     refine wp_region_lit ?_
     refine wpList_load_rowW 35 (.tmp 1) rfl (by rfl) w.heap.size rfl 35 #[.int .i64 bl, .int .i64 wd, .slice B2 ins.length d2, .slice B3 gh.length d3, .slice B4 va.length d4, .slice B5 ar.length d5, .int .u8 zk, .int .u8 zo, .int .u32 zv, .int .i64 zw, .string zn, .slice zA zs.length zc, .slice J7 k j7, .slice J8 q j8, .slice tA work.length tc, .slice uA recov.length uc, .int .u8 yk, .int .u8 yo, .int .u32 yv, .int .i64 yw, .string yn, .slice yA ys.length yc] (0, 0) _ hs15 Tryz.underlying35 rfl (by kernel_rfl) ?_
     refine wpList_store_mid rfl 35 (.tmp 2) (.tmp 93) rfl (w.heap.size + 1) 0 #[.int .i64 bl, .int .i64 wd, .slice B2 ins.length d2, .slice B3 gh.length d3, .slice B4 va.length d4, .slice B5 ar.length d5, .int .u8 zk, .int .u8 zo, .int .u32 zv, .int .i64 zw, .string zn, .slice zA zs.length zc, .slice J7 k j7, .slice J8 q j8, .slice tA work.length tc, .slice uA recov.length uc, .int .u8 yk, .int .u8 yo, .int .u32 yv, .int .i64 yw, .string yn, .slice yA ys.length yc] rfl rfl (there_blk_at hbR (by simp)) (by kernel_rfl) (by simp [Value.oneCell']) ?_
     change wpList _ _ _ _ _ (w8.setCells (w.heap.size + 1) 0 [.int .i64 bl, .int .i64 wd, .slice B2 ins.length d2, .slice B3 gh.length d3, .slice B4 va.length d4, .slice B5 ar.length d5, .int .u8 zk, .int .u8 zo, .int .u32 zv, .int .i64 zw, .string zn, .slice zA zs.length zc, .slice J7 k j7, .slice J8 q j8, .slice tA work.length tc, .slice uA recov.length uc, .int .u8 yk, .int .u8 yo, .int .u32 yv, .int .i64 yw, .string yn, .slice yA ys.length yc])
     replace hbf := Lib.hid hbf
     replace hBf := Lib.hid hBf
     generalize w8.setCells (w.heap.size + 1) 0 [.int .i64 bl, .int .i64 wd, .slice B2 ins.length d2, .slice B3 gh.length d3, .slice B4 va.length d4, .slice B5 ar.length d5, .int .u8 zk, .int .u8 zo, .int .u32 zv, .int .i64 zw, .string zn, .slice zA zs.length zc, .slice J7 k j7, .slice J8 q j8, .slice tA work.length tc, .slice uA recov.length uc, .int .u8 yk, .int .u8 yo, .int .u32 yv, .int .i64 yw, .string yn, .slice yA ys.length yc] = w9 at *
     refine wpList_nil ?_
     simp only [Act.put, List.setIfInBounds_toArray, List.set_cons_zero, List.set_cons_succ]
     rename (∀ (a : Act) (w : World), Code.wp Tryz.prog Code.ret _ a w → _) => hkk
     refine hkk _ _ ?_
     refine wp_ret ?_
     refine bodyPost_ret (results_cell_row rfl _ _ (w.heap.size + 1) 35 _ (0, 0) _ rfl hbf.out Tryz.underlying35 rfl (by kernel_rfl)) rfl ?_
     exact ⟨L, by rw [hag.out], hpl.out, hownf.out, hLfp, hBf.out⟩
end Go.Proofs.YtnldbplphgfpeaaGreat
