/- Lemmas for salvor/salvorlaw29.TreeSmall (part 28); no condition. -/
import Derived.Test.YtnldbplphgfpeaaGreatP26
import Derived.Test.YtnldbplphgfpeaaGreatP19
import Derived.Test.YtnldbplphgfpeaaGreatP18
namespace Go.Proofs.YtnldbplphgfpeaaGreat
open Go Go.RowKit Go.Shelf
set_option linter.unusedVariables false
set_option linter.unusedSimpArgs false
set_option maxHeartbeats 16000000
structure Pt (w : World) (g6 g7 g13 g14 : Nat) (ce cf cx cy : Array Value) (x y : Ex Loc) (ls lt : Loc) (s t : List (St Loc)) (W : World) : Prop where
 b : Below w.heap.size w W
 b6 : Blk W g6 30 ce
 b7 : Blk W g7 30 cf
 b13 : Blk W g13 70 cx
 b14 : Blk W g14 70 cy
 x : x.ok eR W
 y : y.ok eR W
 s : Lst.ok eR W ls s
 t : Lst.ok eR W lt t
theorem Pt.new {w : World} {g6 g7 g13 g14 : Nat} {ce cf cx cy : Array Value} {x y : Ex Loc} {ls lt : Loc} {s t : List (St Loc)} {W W' : World} (h : Pt w g6 g7 g13 g14 ce cf cx cy x y ls lt s t W) (hb : Below W.heap.size W W') : Pt w g6 g7 g13 g14 ce cf cx cy x y ls lt s t W' :=
 ⟨below_and h.b hb, h.b6.below hb h.b6.lt, h.b7.below hb h.b7.lt, h.b13.below hb h.b13.lt, h.b14.below hb h.b14.lt, h.x.below hb, h.y.below hb, h.s.all (keeps_below hb), h.t.all (keeps_below hb)⟩
structure Pq (g17 g18 : Nat) (ca cb : Array Value) (ea eb : Ex Loc) (ll lk : Loc) (lc ld : List (St Loc)) (U : World) (W : World) : Prop where
 u : Below U.heap.size U W
 b17 : Blk W g17 30 ca
 b18 : Blk W g18 30 cb
 a : ea.own eT W U.heap.size
 b : eb.own eT W U.heap.size
 c : Lst.own eT W U.heap.size ll lc
 d : Lst.own eT W U.heap.size lk ld
theorem Pq.new {g17 g18 : Nat} {ca cb : Array Value} {ea eb : Ex Loc} {ll lk : Loc} {lc ld : List (St Loc)} {U W W' : World} (h : Pq g17 g18 ca cb ea eb ll lk lc ld U W) (hb : Below W.heap.size W W') : Pq g17 g18 ca cb ea eb ll lk lc ld U W' :=
 ⟨below_and h.u hb, h.b17.below hb h.b17.lt, h.b18.below hb h.b18.lt, (keep_ex eT _ _).new h.a hb, (keep_ex eT _ _).new h.b hb, h.c.new hb, h.d.new hb⟩
set_option maxRecDepth 100000 in
theorem parts_ok (e f : Ex Loc) (l k : List (St Loc)) (ll lk : Loc) (fr to_ : ByteArray) (w : World) (he : e.ok eT w) (hf : f.ok eT w) (hl : Lst.ok eT w ll l) (hk : Lst.ok eT w lk k) (re : e.all Hd.rng) (rf : f.all Hd.rng) (rl : allL Hd.rng SHd.rng l) (rk : allL Hd.rng SHd.rng k)
  (we : e.wt ≤ 500) (wf : f.wt ≤ 500) (wl : wtL l ≤ 500) (wk : wtL k ≤ 500) (ht : to_.size ≤ 1) : Calls Tryz.prog 6 #[aggX e, aggX f, .slice ll.A l.length ll.c, .slice lk.A k.length lk.c, .string fr, .string to_] w fun r w' => r = .returned (.bool true) ∧ Below w.heap.size w w' := by
 have se := Nat.le_trans e.sz_wt we
 have sf := Nat.le_trans f.sz_wt wf
 have sl := Nat.le_trans (szS_wt l) wl
 have sk := Nat.le_trans (szS_wt k) wk
 have okE := fun W (h : Below w.heap.size w W) => he.below h
 have okF := fun W (h : Below w.heap.size w W) => hf.below h
 have okL := fun W (h : Below w.heap.size w W) => hl.all (keeps_below h)
 have okK := fun W (h : Below w.heap.size w W) => hk.all (keeps_below h)
 have f1 := fun W (h : Below w.heap.size w W) => fewX_ok e 500 500 rfl W (by omega) (okE W h) we
 have f2 := fun W (h : Below w.heap.size w W) => fewX_ok f 500 500 rfl W (by omega) (okF W h) wf
 have f3 := fun W (h : Below w.heap.size w W) => fewL_ok l ll 500 500 rfl W (by omega) (okL W h) wl
 have f4 := fun W (h : Below w.heap.size w W) => fewL_ok k lk 500 500 rfl W (by omega) (okK W h) wk
 have t1 := fun W (h : Below w.heap.size w W) => theirXR e W (okE W h) re (by omega)
 have t2 := fun W (h : Below w.heap.size w W) => theirXR f W (okF W h) rf (by omega)
 have t3 := fun W (h : Below w.heap.size w W) => theirSR l ll W (okL W h) rl (by omega)
 have t4 := fun W (h : Below w.heap.size w W) => theirSR k lk W (okK W h) rk (by omega)
 have s1 := fun W (h : Below w.heap.size w W) => sameExpr_yes e f W (okE W h) (okF W h) (by omega) (by omega)
 have s2 := fun W (h : Below w.heap.size w W) => sameStmts_yes ll lk l k W (okL W h) (okK W h) (by omega) (by omega)
 have z1 := fun W (h : Below w.heap.size w W) => sizeE e W (okE W h) e.sz (by rw [if_pos (by omega)])
 have z2 := fun W (h : Below w.heap.size w W) => sizeS l ll (thin_of (by omega)) W (okL W h) (szS l) (by rw [if_pos (by omega)])
 have d1 := fun W (h : Below w.heap.size w W) => depth_yes l ll W (okL W h) (by omega)
 have m1 := fun W (h : Below w.heap.size w W) => namesR e W (okE W h) (by omega)
 have m2 := fun W (h : Below w.heap.size w W) => callsR l ll W (okL W h) (by omega)
 have c1 := fun W (h : Below w.heap.size w W) => copyEN e W (okE W h) (by omega)
 have c2 := fun W (h : Below w.heap.size w W) => renEN e fr to_ W (okE W h) (by omega)
 have c3 := fun W (h : Below w.heap.size w W) => copySN l ll W (okL W h) (by omega)
 have c4 := fun W (h : Below w.heap.size w W) => renSN l ll fr to_ W (okL W h) (by omega)
 have n1 : l.length ≤ 500 := by have := szS_len l; omega
 have n2 : k.length ≤ 500 := by have := szS_len k; omega
 have h6 := cellsE_size eT e
 have h7 := cellsE_size eT f
 unfold aggX at f1 f2 t1 t2 s1 z1 m1 c1 c2 ⊢
 obtain ⟨ce, hce⟩ : ∃ c, c = (e.cells eT).toArray := ⟨_, rfl⟩
 obtain ⟨cf, hcf⟩ : ∃ c, c = (f.cells eT).toArray := ⟨_, rfl⟩
 rw [← hce] at f1 t1 s1 z1 m1 c1 c2 h6 ⊢
 rw [← hcf] at f2 t2 s1 h7 ⊢
 obtain ⟨lA, lc⟩ := ll
 obtain ⟨kA, kc⟩ := lk
 obtain ⟨nl, hnl⟩ : ∃ n, n = l.length := ⟨_, rfl⟩
 obtain ⟨nk, hnk⟩ : ∃ n, n = k.length := ⟨_, rfl⟩
 dsimp only at f3 f4 t3 t4 s2 z2 d1 m2 c3 c4 ⊢
 rw [← hnl] at f3 t3 s2 z2 d1 m2 c3 c4 n1 ⊢
 rw [← hnk] at f4 t4 s2 n2 ⊢
 have hB := (new_below w (.cells ce 30)).alloc (by simp) (.cells cf 30)
 have hb6 := (Blk.new w 30 ce).alloc (.cells cf 30)
 have hb7 := Blk.new (w.alloc (.cells ce 30)) 30 cf
 rw [World.size_alloc] at hb7
 replace hce := Lib.hid hce
 replace hcf := Lib.hid hcf
 replace hnl := Lib.hid hnl
 replace hnk := Lib.hid hnk
 replace f1 := Lib.hid f1
 replace f2 := Lib.hid f2
 replace f3 := Lib.hid f3
 replace f4 := Lib.hid f4
 replace t1 := Lib.hid t1
 replace t2 := Lib.hid t2
 replace t3 := Lib.hid t3
 replace t4 := Lib.hid t4
 replace s1 := Lib.hid s1
 replace s2 := Lib.hid s2
 replace z1 := Lib.hid z1
 replace z2 := Lib.hid z2
 replace d1 := Lib.hid d1
 replace m1 := Lib.hid m1
 replace m2 := Lib.hid m2
 replace c1 := Lib.hid c1
 replace c2 := Lib.hid c2
 replace c3 := Lib.hid c3
 replace c4 := Lib.hid c4
 replace hB := Lib.hid hB
 replace re := Lib.hid re
 replace rf := Lib.hid rf
 replace rl := Lib.hid rl
 replace rk := Lib.hid rk
 clear he hf hl hk okE okF okL okK
 go_enter Tryz.func6, Tryz.ntmps6
 go_upto_region 1 with (fail)
 generalize (w.alloc (.cells ce 30)).alloc (.cells cf 30) = W0 at *
 go_upto_region 3 with (first
  | (refine wpList_load_rowW 30 (.tmp 6) rfl (by rfl) w.heap.size rfl 30 ce (0, 0) _ hb6 Tryz.underlying30 rfl (by rw [h6]; kernel_rfl) ?_; simp only [Act.put, List.setIfInBounds_toArray, List.set_cons_zero, List.set_cons_succ])
  | (refine wpList_load_rowW 30 (.tmp 7) rfl (by rfl) (w.heap.size + 1) rfl 30 cf (0, 0) _ hb7 Tryz.underlying30 rfl (by rw [h7]; kernel_rfl) ?_; simp only [Act.put, List.setIfInBounds_toArray, List.set_cons_zero, List.set_cons_succ])
  | (go_at_call 60; with_reducible refine (f1.out _ hB.out).mono ?_; rintro e w1 ⟨rfl, hB1⟩; replace hb6 := hb6.below hB1 hb6.lt; replace hb7 := hb7.below hB1 hb7.lt; replace hB := Lib.hid (below_and hB.out hB1); clear hB1)
  | (go_at_call 60; with_reducible refine (f2.out _ hB.out).mono ?_; rintro e w1 ⟨rfl, hB1⟩; replace hb6 := hb6.below hB1 hb6.lt; replace hb7 := hb7.below hB1 hb7.lt; replace hB := Lib.hid (below_and hB.out hB1); clear hB1)
  | (go_at_call 61; with_reducible refine (f3.out _ hB.out).mono ?_; rintro e w1 ⟨rfl, hB1⟩; replace hb6 := hb6.below hB1 hb6.lt; replace hb7 := hb7.below hB1 hb7.lt; replace hB := Lib.hid (below_and hB.out hB1); clear hB1)
  | (go_at_call 61; with_reducible refine (f4.out _ hB.out).mono ?_; rintro e w1 ⟨rfl, hB1⟩; replace hb6 := hb6.below hB1 hb6.lt; replace hb7 := hb7.below hB1 hb7.lt; replace hB := Lib.hid (below_and hB.out hB1); clear hB1))
 rename World => W2
 have hBd := (Below.refl W2.heap.size W2).drew
 refine wp_region_held (S := fun W => Below W2.heap.size W2 W) (by kernel_rfl) ?_
 change wpAnyH _ _ _ _ _ _ _ _ (World.drew _)
 refine takes [0, 2, 4, 6] (fuel := 10) (by kernel_rfl) (fun _ _ _ _ h => h) hBd (by kernel_rfl) (fun K hK => ?_)
 refine TakesG.cons rfl (load_rowA 30 (.tmp 6) rfl w.heap.size rfl ce _ (fun W h => hb6.below h hb6.lt) Tryz.underlying30 rfl (by rw [h6]; kernel_rfl)) ?_
 refine TakesG.cons rfl (load_rowA 30 (.tmp 7) rfl (w.heap.size + 1) rfl cf _ (fun W h => hb7.below h hb7.lt) Tryz.underlying30 rfl (by rw [h7]; kernel_rfl)) ?_
 simp only [Act.put, List.setIfInBounds_toArray, List.set_cons_zero, List.set_cons_succ]
 repeat (refine TakesG.cons rfl (v := ?_) ?_ ?_; rotate_left; (· intro wz hSw; clear hSw; go_simp; try with_reducible rfl); simp only [Act.put, List.setIfInBounds_toArray, List.set_cons_zero, List.set_cons_succ])
 refine hK.out _ ?_
 clear hK K
 refine bag_any [1, 3, 5, 7, 8, 9] [some 40, some 42, some 44, some 46, some 13, some 14] [bEx 1 0 eR e.plain, bEx 3 1 eR f.plain, bSt 5 2 eR (plainS l), bSt 7 3 eR (plainS k), bNw 8 4 70 #[.int .i64 0, .int .i64 0, .int .i64 0, .int .i64 0, .string ⟨#[]⟩, .slice none 0 0], bNw 9 5 70 #[.int .i64 0, .int .i64 0, .int .i64 0, .int .i64 0, .string ⟨#[]⟩, .slice none 0 0]] (fuel := 4) rfl rfl (by kernel_rfl) (fun W h => hBd.trans h)
  ((.cons rfl rfl (fun x lo hi W hW hd K hK => ?_) (.cons rfl rfl (fun x lo hi W hW hd K hK => ?_) (.cons rfl rfl (fun x lo hi W hW hd K hK => ?_) (.cons rfl rfl (fun x lo hi W hW hd K hK => ?_) (.cons rfl rfl (fun x lo hi W hW hd K hK => ?_) (.cons rfl rfl (fun x lo hi W hW hd K hK => ?_) .nil))))))) ?_
 all_goals (try (simp only [bagAct, puts, Act.put, List.setIfInBounds_toArray, List.set_cons_zero, List.set_cons_succ] at hK ⊢; go_simp))
 ·refine (t1.out W (below_and hB.out.drew hW)).mono ?_
  rintro _ W' ⟨⟨_, rfl, h⟩, hb⟩
  exact hK.out _ _ hb h
 ·refine (t2.out W (below_and hB.out.drew hW)).mono ?_
  rintro _ W' ⟨⟨_, rfl, h⟩, hb⟩
  exact hK.out _ _ hb h
 ·refine (t3.out W (below_and hB.out.drew hW)).mono ?_
  rintro _ W' ⟨⟨_, rfl, h⟩, hb⟩
  exact hK.out _ _ hb h
 ·refine (t4.out W (below_and hB.out.drew hW)).mono ?_
  rintro _ W' ⟨⟨_, rfl, h⟩, hb⟩
  exact hK.out _ _ hb h
 ·exact hK.out _ _ (new_below W _) (nwR_new W _ _)
 ·exact hK.out _ _ (new_below W _) (nwR_new W _ _)
 intro v lo hi W hE hBW
 obtain ⟨x, e0, px, ox, ux⟩ : exR _ _ (v 0) (lo 0) (hi 0) W := (hE.f 0 _ rfl).2.2
 obtain ⟨y, e1, py, oy, uy⟩ : exR _ _ (v 1) (lo 1) (hi 1) W := (hE.f 1 _ rfl).2.2
 obtain ⟨sA, sc, s, e2, ps, os, us⟩ : stR _ _ (v 2) (lo 2) (hi 2) W := (hE.f 2 _ rfl).2.2
 obtain ⟨tA, tc, t, e3, pt, ot, ut⟩ : stR _ _ (v 3) (lo 3) (hi 3) W := (hE.f 3 _ rfl).2.2
 obtain ⟨g13, e4, b13, l13, u13⟩ : nwR _ _ (v 4) (lo 4) (hi 4) W := (hE.f 4 _ rfl).2.2
 obtain ⟨g14, e5, b14, l14, u14⟩ : nwR _ _ (v 5) (lo 5) (hi 5) W := (hE.f 5 _ rfl).2.2
 have k13 : W2.heap.size ≤ lo 4 := (hE.f 4 _ rfl).1
 have k14 : W2.heap.size ≤ lo 5 := (hE.f 5 _ rfl).1
 simp only [bagAct, puts, List.setIfInBounds_toArray, List.set_cons_zero, List.set_cons_succ]
 have h13 := cellsE_size eR x
 have h14 := cellsE_size eR y
 obtain ⟨cx, hcx⟩ : ∃ c, c = (x.cells eR).toArray := ⟨_, rfl⟩
 obtain ⟨cy, hcy⟩ : ∃ c, c = (y.cells eR).toArray := ⟨_, rfl⟩
 rw [← hcx] at e0 h13
 rw [← hcy] at e1 h14
 simp only [e0, e1, e2, e3, e4, e5]
 have hw2 : W2.heap.size ≤ W.heap.size := hBW.size
 refine putH 10 rfl (by kernel_rfl) (.tmp 13) (.tmp 40) rfl rfl g13 cx b13 rfl rfl (by rw [h13]; rfl) (by rw [h13]; kernel_rfl) (by rw [hcx]; exact cellsE_one eR x) (fun W' n13 o13 => ⟨hBW.trans (o13.below hBW.size (by simp; omega)), ?_⟩)
 refine putH 11 rfl (by kernel_rfl) (.tmp 14) (.tmp 42) rfl rfl g14 cy (b14.only o13 (by simp; exact hE.apart 4 5 rfl l13 u13 l14 u14)) rfl rfl (by rw [h14]; rfl) (by rw [h14]; kernel_rfl) (by rw [hcy]; exact cellsE_one eR y) (fun W'' n14 o14 => ?_)
 have hB4 : Below W2.heap.size W2 W'' := (hBW.trans (o13.below hBW.size (by simp; omega))).trans (o14.below (Nat.le_trans hBW.size o13.size) (by simp; omega))
 refine ⟨hB4, ?_⟩
 have hBW2 := hB.out
 have hP : Pt w w.heap.size (w.heap.size + 1) g13 g14 ce cf cx cy x y ⟨sA, sc⟩ ⟨tA, tc⟩ s t W'' := ⟨below_and hBW2 hB4, hb6.below hB4 hb6.lt, hb7.below hB4 hb7.lt, n13.only o14 (by simp; exact hE.apart 5 4 rfl l14 u14 l13 u13), n14,
  ((ox.keep o13 fun b hm h => hE.apart 4 0 rfl l13 u13 (ox.ge b hm).1 (ux b hm) (List.mem_singleton.1 h)).keep o14 fun b hm h => hE.apart 5 0 rfl l14 u14 (ox.ge b hm).1 (ux b hm) (List.mem_singleton.1 h)).ok,
  ((oy.keep o13 fun b hm h => hE.apart 4 1 rfl l13 u13 (oy.ge b hm).1 (uy b hm) (List.mem_singleton.1 h)).keep o14 fun b hm h => hE.apart 5 1 rfl l14 u14 (oy.ge b hm).1 (uy b hm) (List.mem_singleton.1 h)).ok,
  ((os.onlyG o13 fun hm => hE.apart 4 2 rfl l13 u13 (os.ge _ hm).1 (us _ hm) rfl).onlyG o14 fun hm => hE.apart 5 2 rfl l14 u14 (os.ge _ hm).1 (us _ hm) rfl).ok,
  ((ot.onlyG o13 fun hm => hE.apart 4 3 rfl l13 u13 (ot.ge _ hm).1 (ut _ hm) rfl).onlyG o14 fun hm => hE.apart 5 3 rfl l14 u14 (ot.ge _ hm).1 (ut _ hm) rfl).ok⟩
 replace hP := Lib.hid hP
 replace hcx := Lib.hid hcx
 replace hcy := Lib.hid hcy
 replace px := Lib.hid px
 replace py := Lib.hid py
 replace ps := Lib.hid ps
 replace pt := Lib.hid pt
 clear hE e0 e1 e2 e3 e4 e5 n13 n14 o13 o14 ox oy os ot ux uy us ut l13 u13 l14 u14 k13 k14 b13 b14 hBW hBW2 hw2 hBd hb6 hb7 hB
 refine callH 12 rfl (by kernel_rfl) (fun K hK => ?_)
 go_simp
 refine hK.out _ _ hB4 (fun _ => ?_)
 clear hK K
 refine callH 13 rfl (by kernel_rfl) (fun K hK => ?_)
 go_simp
 refine hK.out _ _ hB4 (fun _ => wpAnyH_done (by kernel_rfl) ?_ _)
 clear hK K hB4 W W'
 rename World => W3
 generalize hT : Pt w w.heap.size (w.heap.size + 1) g13 g14 ce cf cx cy x y ⟨sA, sc⟩ ⟨tA, tc⟩ s t = T at hP
 have hTo : ∀ W, T W → Pt w w.heap.size (w.heap.size + 1) g13 g14 ce cf cx cy x y ⟨sA, sc⟩ ⟨tA, tc⟩ s t W := fun W h => by rw [hT]; exact h
 have hTn : ∀ W W', T W → Below W.heap.size W W' → T W' := fun W W' h hb => by rw [← hT] at h ⊢; exact h.new hb
 have hxz : x.sz = e.sz := by rw [← Ex.sz_plain, px.out, Ex.sz_plain]
 have hsz : szS s = szS l := by rw [← szS_plain, ps.out, szS_plain]
 have r1 := fun W (h : T W) => rsameE x y W (hTo W h).x (hTo W h).y
 have r2 := fun W (h : T W) => rsameS s ⟨sA, sc⟩ ⟨tA, tc⟩ t W (hTo W h).s (hTo W h).t
 have r3 := fun W (h : T W) => rcountE x 0 W (by omega) (hTo W h).x
 have r4 := fun W (h : T W) => rcountS s ⟨sA, sc⟩ 0 W (by omega) (hTo W h).s
 have r5 := fun W (h : T W) => rdepth s ⟨sA, sc⟩ W (hTo W h).s (by omega)
 have r6 := fun W (h : T W) => rnames x [] _ W (hTo W h).x (NmR.nil W) (by simp; omega)
 have r7 := fun W (h : T W) => rcalls s ⟨sA, sc⟩ [] _ W (hTo W h).s (NmR.nil W) (by simp; omega)
 have r9 := fun W (h : T W) => rrename x fr to_ W (hTo W h).x (by omega)
 have r10 := fun W (h : T W) => rrenameS s ⟨sA, sc⟩ fr to_ W (hTo W h).s (by omega)
 rw [sameE_of px.out py.out] at r1
 rw [sameS_of ps.out pt.out] at r2
 rw [hxz] at r3
 rw [hsz] at r4
 rw [show dpS s = dpS l by rw [← dpS_plain, ps.out, dpS_plain]] at r5
 rw [show x.nodes.foldl stepN [] = namesE e from names_of px.out] at r6
 rw [show (nodesS s).foldl stepC [] = callsS l from calls_of ps.out] at r7
 rw [← Ex.ren_plain, px.out, Ex.ren_plain] at r9
 rw [← renS_plain, ps.out, renS_plain] at r10
 simp only [Nat.zero_add, show ((0 : Nat) : Int) = 0 from rfl] at r3 r4
 unfold aggRX at r1 r3 r6 r9
 rw [← hcx.out, ← hcy.out] at r1
 rw [← hcx.out] at r3 r6 r9
 dsimp only at r2 r4 r5 r7 r10
 generalize e.same f = q1 at s1 r1
 generalize sameS l k = q2 at s2 r2
 generalize ((e.sz : Nat) : Int) = q3 at z1 r3
 generalize ((szS l : Nat) : Int) = q4 at z2 r4
 generalize ((dpS l : Nat) : Int) = q5 at d1 r5
 replace r1 := Lib.hid r1
 replace r2 := Lib.hid r2
 replace r3 := Lib.hid r3
 replace r4 := Lib.hid r4
 replace r5 := Lib.hid r5
 replace r6 := Lib.hid r6
 replace r7 := Lib.hid r7
 replace r9 := Lib.hid r9
 replace r10 := Lib.hid r10
 replace hxz := Lib.hid hxz
 replace hsz := Lib.hid hsz
 replace hT := Lib.hid hT
 go_upto_region 4 with (fail)
 have hN1 : (namesE e).length ≤ 1000000 := by
  have h1 := foldN_len e.nodes []
  rw [e.nodes_len] at h1
  unfold namesE
  simp at h1; omega
 have hN2 : (callsS l).length ≤ 1000000 := by
  have h1 := foldC_len (nodesS l) []
  have h2 := nodesS_len_le l
  unfold callsS
  simp at h1; omega
 have hS := hTn _ _ hP.out (Below.refl W3.heap.size W3).drew
 refine wp_region_held (S := T) (by kernel_rfl) ?_
 change wpAnyH _ _ _ _ _ _ _ _ (World.drew _)
 generalize W3.drew = U0 at *
 refine takesW [0, 1, 3, 4] (fuel := 49) (by kernel_rfl) (fun _ _ _ _ h => h) hS (by kernel_rfl) (fun K hK => ?_)
 refine TakesW.cons (by rfl) (load_rowA 30 (.tmp 6) rfl w.heap.size rfl ce _ (fun W h => (hTo W h).b6) Tryz.underlying30 rfl (by rw [h6]; kernel_rfl)) ?_
 simp only [Act.put, List.setIfInBounds_toArray, List.set_cons_zero, List.set_cons_succ]
 refine TakesW.cons (by rfl) (load_rowA 30 (.tmp 7) rfl (w.heap.size + 1) rfl cf _ (fun W h => (hTo W h).b7) Tryz.underlying30 rfl (by rw [h7]; kernel_rfl)) ?_
 simp only [Act.put, List.setIfInBounds_toArray, List.set_cons_zero, List.set_cons_succ]
 refine TakesW.cons (by rfl) (load_rowA 70 (.tmp 13) rfl g13 rfl cx _ (fun W h => (hTo W h).b13) Tryz.underlying70 rfl (by rw [h13]; kernel_rfl)) ?_
 simp only [Act.put, List.setIfInBounds_toArray, List.set_cons_zero, List.set_cons_succ]
 refine TakesW.cons (by rfl) (load_rowA 70 (.tmp 14) rfl g14 rfl cy _ (fun W h => (hTo W h).b14) Tryz.underlying70 rfl (by rw [h14]; kernel_rfl)) ?_
 simp only [Act.put, List.setIfInBounds_toArray, List.set_cons_zero, List.set_cons_succ]
 refine hK.out _ ?_
 clear hK K
 refine callH 2 rfl (by kernel_rfl) (fun K hK => ?_)
 go_simp
 refine (s1.out _ (hTo _ hS).b).mono ?_
 rintro _ U ⟨rfl, hb⟩
 replace hS := hTn _ _ hS hb
 refine hK.out _ _ hS (fun _ => ?_)
 clear hK K hb
 refine callH 5 rfl (by kernel_rfl) (fun K hK => ?_)
 go_simp
 refine (r1.out _ hS).mono ?_
 rintro _ U ⟨rfl, hb⟩
 replace hS := hTn _ _ hS hb
 refine hK.out _ _ hS (fun _ => ?_)
 clear hK K hb
 refine takesW [6, 7, 8, 9, 11, 12] (fuel := 41) (by kernel_rfl) (fun _ _ _ _ h => h) hS (by kernel_rfl) (fun K hK => ?_)
 iterate 6 (refine TakesW.cons (by rfl) (v := ?_) ?_ ?_; rotate_left; (· intro wz hSw; clear hSw; go_simp; try with_reducible rfl); simp only [Act.put, List.setIfInBounds_toArray, List.set_cons_zero, List.set_cons_succ])
 refine hK.out _ ?_
 clear hK K
 refine callH 10 rfl (by kernel_rfl) (fun K hK => ?_)
 go_simp
 refine (s2.out _ (hTo _ hS).b).mono ?_
 rintro _ U ⟨rfl, hb⟩
 replace hS := hTn _ _ hS hb
 refine hK.out _ _ hS (fun _ => ?_)
 clear hK K hb
 refine callH 13 rfl (by kernel_rfl) (fun K hK => ?_)
 go_simp
 refine (r2.out _ hS).mono ?_
 rintro _ U ⟨rfl, hb⟩
 replace hS := hTn _ _ hS hb
 refine hK.out _ _ hS (fun _ => ?_)
 clear hK K hb
 refine takesW [14, 15, 16, 17, 19] (fuel := 34) (by kernel_rfl) (fun _ _ _ _ h => h) hS (by kernel_rfl) (fun K hK => ?_)
 iterate 3 (refine TakesW.cons (by rfl) (v := ?_) ?_ ?_; rotate_left; (· intro wz hSw; clear hSw; go_simp; try with_reducible rfl); simp only [Act.put, List.setIfInBounds_toArray, List.set_cons_zero, List.set_cons_succ])
 refine TakesW.cons (by rfl) (load_rowA 30 (.tmp 6) rfl w.heap.size rfl ce _ (fun W h => (hTo W h).b6) Tryz.underlying30 rfl (by rw [h6]; kernel_rfl)) ?_
 simp only [Act.put, List.setIfInBounds_toArray, List.set_cons_zero, List.set_cons_succ]
 refine TakesW.cons (by rfl) (load_rowA 70 (.tmp 13) rfl g13 rfl cx _ (fun W h => (hTo W h).b13) Tryz.underlying70 rfl (by rw [h13]; kernel_rfl)) ?_
 simp only [Act.put, List.setIfInBounds_toArray, List.set_cons_zero, List.set_cons_succ]
 refine hK.out _ ?_
 clear hK K
 refine callH 18 rfl (by kernel_rfl) (fun K hK => ?_)
 go_simp
 refine (z1.out _ (hTo _ hS).b).mono ?_
 rintro _ U ⟨rfl, hb⟩
 replace hS := hTn _ _ hS hb
 refine hK.out _ _ hS (fun _ => ?_)
 clear hK K hb
 refine callH 20 rfl (by kernel_rfl) (fun K hK => ?_)
 go_simp
 refine (r3.out _ hS).mono ?_
 rintro _ U ⟨rfl, hb⟩
 replace hS := hTn _ _ hS hb
 refine hK.out _ _ hS (fun _ => ?_)
 clear hK K hb
 refine takesW [21, 22, 23, 24, 26] (fuel := 27) (by kernel_rfl) (fun _ _ _ _ h => h) hS (by kernel_rfl) (fun K hK => ?_)
 iterate 5 (refine TakesW.cons (by rfl) (v := ?_) ?_ ?_; rotate_left; (· intro wz hSw; clear hSw; go_simp; try with_reducible rfl); simp only [Act.put, List.setIfInBounds_toArray, List.set_cons_zero, List.set_cons_succ])
 refine hK.out _ ?_
 clear hK K
 refine callH 25 rfl (by kernel_rfl) (fun K hK => ?_)
 go_simp
 refine (z2.out _ (hTo _ hS).b).mono ?_
 rintro _ U ⟨rfl, hb⟩
 replace hS := hTn _ _ hS hb
 refine hK.out _ _ hS (fun _ => ?_)
 clear hK K hb
 refine callH 27 rfl (by kernel_rfl) (fun K hK => ?_)
 go_simp
 refine (r4.out _ hS).mono ?_
 rintro _ U ⟨rfl, hb⟩
 replace hS := hTn _ _ hS hb
 refine hK.out _ _ hS (fun _ => ?_)
 clear hK K hb
 refine takesW [28, 29, 30, 31, 33] (fuel := 20) (by kernel_rfl) (fun _ _ _ _ h => h) hS (by kernel_rfl) (fun K hK => ?_)
 iterate 5 (refine TakesW.cons (by rfl) (v := ?_) ?_ ?_; rotate_left; (· intro wz hSw; clear hSw; go_simp; try with_reducible rfl); simp only [Act.put, List.setIfInBounds_toArray, List.set_cons_zero, List.set_cons_succ])
 refine hK.out _ ?_
 clear hK K
 refine callH 32 rfl (by kernel_rfl) (fun K hK => ?_)
 go_simp
 refine (d1.out _ (hTo _ hS).b).mono ?_
 rintro _ U ⟨rfl, hb⟩
 replace hS := hTn _ _ hS hb
 refine hK.out _ _ hS (fun _ => ?_)
 clear hK K hb
 refine callH 34 rfl (by kernel_rfl) (fun K hK => ?_)
 go_simp
 refine (r5.out _ hS).mono ?_
 rintro _ U ⟨rfl, hb⟩
 replace hS := hTn _ _ hS hb
 refine hK.out _ _ hS (fun _ => ?_)
 clear hK K hb
 refine takesW [35, 36, 37, 38, 40] (fuel := 13) (by kernel_rfl) (fun _ _ _ _ h => h) hS (by kernel_rfl) (fun K hK => ?_)
 iterate 3 (refine TakesW.cons (by rfl) (v := ?_) ?_ ?_; rotate_left; (· intro wz hSw; clear hSw; go_simp; try with_reducible rfl); simp only [Act.put, List.setIfInBounds_toArray, List.set_cons_zero, List.set_cons_succ])
 refine TakesW.cons (by rfl) (load_rowA 30 (.tmp 6) rfl w.heap.size rfl ce _ (fun W h => (hTo W h).b6) Tryz.underlying30 rfl (by rw [h6]; kernel_rfl)) ?_
 simp only [Act.put, List.setIfInBounds_toArray, List.set_cons_zero, List.set_cons_succ]
 refine TakesW.cons (by rfl) (load_rowA 70 (.tmp 13) rfl g13 rfl cx _ (fun W h => (hTo W h).b13) Tryz.underlying70 rfl (by rw [h13]; kernel_rfl)) ?_
 simp only [Act.put, List.setIfInBounds_toArray, List.set_cons_zero, List.set_cons_succ]
 refine hK.out _ ?_
 clear hK K
 refine callH 39 rfl (by kernel_rfl) (fun K hK => ?_)
 go_simp
 refine (m1.out _ (hTo _ hS).b).mono ?_
 rintro _ U ⟨⟨v1, rfl, hv1⟩, hb⟩
 replace hS := hTn _ _ hS hb
 refine hK.out _ _ hS (fun _ => ?_)
 clear hK K hb
 refine callH 41 rfl (by kernel_rfl) (fun K hK => ?_)
 go_simp
 refine (r6.out _ hS).mono ?_
 rintro _ U ⟨⟨v2, rfl, hv2⟩, hb⟩
 replace hv1 := hv1.new hb
 replace hS := hTn _ _ hS hb
 refine hK.out _ _ hS (fun _ => ?_)
 clear hK K hb
 refine callH 42 rfl (by kernel_rfl) (fun K hK => ?_)
 go_simp
 refine (sameTexts _ _ _ _ hv1 hv2 hN1).mono ?_
 rintro _ U ⟨rfl, hb⟩
 clear hv1 hv2
 replace hS := hTn _ _ hS hb
 refine hK.out _ _ hS (fun _ => ?_)
 clear hK K hb
 refine takesW [43, 44, 45, 46, 48] (fuel := 5) (by kernel_rfl) (fun _ _ _ _ h => h) hS (by kernel_rfl) (fun K hK => ?_)
 iterate 5 (refine TakesW.cons (by rfl) (v := ?_) ?_ ?_; rotate_left; (· intro wz hSw; clear hSw; go_simp; try with_reducible rfl); simp only [Act.put, List.setIfInBounds_toArray, List.set_cons_zero, List.set_cons_succ])
 refine hK.out _ ?_
 clear hK K
 refine callH 47 rfl (by kernel_rfl) (fun K hK => ?_)
 go_simp
 refine (m2.out _ (hTo _ hS).b).mono ?_
 rintro _ U ⟨⟨v1, rfl, hv1⟩, hb⟩
 replace hS := hTn _ _ hS hb
 refine hK.out _ _ hS (fun _ => ?_)
 clear hK K hb
 refine callH 49 rfl (by kernel_rfl) (fun K hK => ?_)
 go_simp
 refine (r7.out _ hS).mono ?_
 rintro _ U ⟨⟨v2, rfl, hv2⟩, hb⟩
 replace hv1 := hv1.new hb
 replace hS := hTn _ _ hS hb
 refine hK.out _ _ hS (fun _ => ?_)
 clear hK K hb
 refine callH 50 rfl (by kernel_rfl) (fun K hK => ?_)
 go_simp
 refine (sameTexts _ _ _ _ hv1 hv2 hN2).mono ?_
 rintro _ U ⟨rfl, hb⟩
 clear hv1 hv2
 replace hS := hTn _ _ hS hb
 refine hK.out _ _ hS (fun _ => ?_)
 clear hK K hb
 refine takesW [51, 52] (fuel := 0) (by kernel_rfl) (fun _ _ _ _ h => h) hS (by kernel_rfl) (fun K hK => ?_)
 iterate 2 (refine TakesW.cons (by rfl) (v := ?_) ?_ ?_; rotate_left; (· intro wz hSw; clear hSw; go_simp; try with_reducible rfl); simp only [Act.put, List.setIfInBounds_toArray, List.set_cons_zero, List.set_cons_succ])
 refine hK.out _ ?_
 clear hK K
 refine wpAnyH_done (by kernel_rfl) ?_ _
 replace hP := Lib.hid hS
 clear hS hN1 hN2
 rename World => W4
 go_upto_region 6 with (fail)
 have hS := hTn _ _ hP.out (Below.refl W4.heap.size W4).drew
 refine wp_region_held (S := T) (by kernel_rfl) ?_
 change wpAnyH _ _ _ _ _ _ _ _ (World.drew _)
 have hUW : Below W4.heap.size W4 W4.drew := (Below.refl W4.heap.size W4).drew
 generalize W4.drew = U0 at *
 refine takesW [0, 2, 3, 4, 6, 8, 9, 10] (fuel := 10) (by kernel_rfl) (fun _ _ _ _ h => h) hS (by kernel_rfl) (fun K hK => ?_)
 refine TakesW.cons (by rfl) (load_rowA 30 (.tmp 6) rfl w.heap.size rfl ce _ (fun W h => (hTo W h).b6) Tryz.underlying30 rfl (by rw [h6]; kernel_rfl)) ?_
 refine TakesW.cons (by rfl) (load_rowA 30 (.tmp 6) rfl w.heap.size rfl ce _ (fun W h => (hTo W h).b6) Tryz.underlying30 rfl (by rw [h6]; kernel_rfl)) ?_
 simp only [Act.put, List.setIfInBounds_toArray, List.set_cons_zero, List.set_cons_succ]
 iterate 6 (refine TakesW.cons (by rfl) (v := ?_) ?_ ?_; rotate_left; (· intro wz hSw; clear hSw; go_simp; try with_reducible rfl); simp only [Act.put, List.setIfInBounds_toArray, List.set_cons_zero, List.set_cons_succ])
 refine hK.out _ ?_
 clear hK K
 refine bag_any [1, 5, 7, 11, 12, 13] [some 101, some 105, some 107, some 111, some 17, some 18] [bXn 1 0 e.plain, bXn 5 1 (e.ren (chg fr to_)), bSn 7 2 (plainS l), bSn 11 3 (renS (chg fr to_) l), bNw 12 4 30 #[.int .u8 0, .int .u8 0, .int .u32 0, .int .i64 0, .string ⟨#[]⟩, .slice none 0 0], bNw 13 5 30 #[.int .u8 0, .int .u8 0, .int .u32 0, .int .i64 0, .string ⟨#[]⟩, .slice none 0 0]] (fuel := 4) rfl rfl (by kernel_rfl) (fun W h => hTn _ _ hS h)
  ((.cons rfl rfl (fun x lo hi W hW hd K hK => ?_) (.cons rfl rfl (fun x lo hi W hW hd K hK => ?_) (.cons rfl rfl (fun x lo hi W hW hd K hK => ?_) (.cons rfl rfl (fun x lo hi W hW hd K hK => ?_) (.cons rfl rfl (fun x lo hi W hW hd K hK => ?_) (.cons rfl rfl (fun x lo hi W hW hd K hK => ?_) .nil))))))) ?_
 all_goals (try (simp only [bagAct, puts, Act.put, List.setIfInBounds_toArray, List.set_cons_zero, List.set_cons_succ] at hK ⊢; go_simp))
 ·refine (c1.out W (hTo W (hTn _ _ hS hW)).b).mono ?_
  rintro _ W' ⟨⟨_, rfl, h⟩, hb⟩
  exact hK.out _ _ hb h
 ·refine (c2.out W (hTo W (hTn _ _ hS hW)).b).mono ?_
  rintro _ W' ⟨⟨_, rfl, h⟩, hb⟩
  exact hK.out _ _ hb h
 ·refine (c3.out W (hTo W (hTn _ _ hS hW)).b).mono ?_
  rintro _ W' ⟨⟨_, rfl, h⟩, hb⟩
  exact hK.out _ _ hb h
 ·refine (c4.out W (hTo W (hTn _ _ hS hW)).b).mono ?_
  rintro _ W' ⟨⟨_, rfl, h⟩, hb⟩
  exact hK.out _ _ hb h
 ·exact hK.out _ _ (new_below W _) (nwR_new W _ _)
 ·exact hK.out _ _ (new_below W _) (nwR_new W _ _)
 intro v lo hi W hE hSW
 obtain ⟨ea, e0, pa, oa, na, ua⟩ : exN _ (v 0) (lo 0) (hi 0) W := (hE.f 0 _ rfl).2.2
 obtain ⟨eb, e1, pb, ob, nb, ub⟩ : exN _ (v 1) (lo 1) (hi 1) W := (hE.f 1 _ rfl).2.2
 obtain ⟨cA, cc, lc2, e2, pc, oc, nc, uc⟩ : stN _ (v 2) (lo 2) (hi 2) W := (hE.f 2 _ rfl).2.2
 obtain ⟨dA, dc, ld, e3, pd, od, nd, ud⟩ : stN _ (v 3) (lo 3) (hi 3) W := (hE.f 3 _ rfl).2.2
 obtain ⟨g17, e4, b17, l17, u17⟩ : nwR _ _ (v 4) (lo 4) (hi 4) W := (hE.f 4 _ rfl).2.2
 obtain ⟨g18, e5, b18, l18, u18⟩ : nwR _ _ (v 5) (lo 5) (hi 5) W := (hE.f 5 _ rfl).2.2
 have k0 : U0.heap.size ≤ lo 0 := (hE.f 0 _ rfl).1
 have k1 : U0.heap.size ≤ lo 1 := (hE.f 1 _ rfl).1
 have k2 : U0.heap.size ≤ lo 2 := (hE.f 2 _ rfl).1
 have k3 : U0.heap.size ≤ lo 3 := (hE.f 3 _ rfl).1
 have k17 : U0.heap.size ≤ lo 4 := (hE.f 4 _ rfl).1
 have k18 : U0.heap.size ≤ lo 5 := (hE.f 5 _ rfl).1
 simp only [bagAct, puts, List.setIfInBounds_toArray, List.set_cons_zero, List.set_cons_succ]
 have h17 := cellsE_size eT ea
 have h18 := cellsE_size eT eb
 obtain ⟨ca, hca⟩ : ∃ c, c = (ea.cells eT).toArray := ⟨_, rfl⟩
 obtain ⟨cb, hcb⟩ : ∃ c, c = (eb.cells eT).toArray := ⟨_, rfl⟩
 rw [← hca] at e0 h17
 rw [← hcb] at e1 h18
 simp only [e0, e1, e2, e3, e4, e5]
 have hBW : Below U0.heap.size U0 W := hE.b
 have hTo5 : ∀ V, Below U0.heap.size U0 V → T V := fun V h => hTn _ _ hS h
 refine putH 14 rfl (by kernel_rfl) (.tmp 17) (.tmp 101) rfl rfl g17 ca b17 rfl rfl (by rw [h17]; rfl) (by rw [h17]; kernel_rfl) (by rw [hca]; exact cellsE_one eT ea) (fun W' n17 o17 => ⟨hTo5 _ (hBW.trans (o17.below hBW.size (by simp; omega))), ?_⟩)
 refine putH 15 rfl (by kernel_rfl) (.tmp 18) (.tmp 105) rfl rfl g18 cb (b18.only o17 (by simp; exact hE.apart 4 5 rfl l17 u17 l18 u18)) rfl rfl (by rw [h18]; rfl) (by rw [h18]; kernel_rfl) (by rw [hcb]; exact cellsE_one eT eb) (fun W'' n18 o18 => ?_)
 have hB4 : Below U0.heap.size U0 W'' := (hBW.trans (o17.below hBW.size (by simp; omega))).trans (o18.below (Nat.le_trans hBW.size o17.size) (by simp; omega))
 have hT4 := hTo5 _ hB4
 refine ⟨hT4, ?_⟩
 have hQ : Pq g17 g18 ca cb ea eb ⟨cA, cc⟩ ⟨dA, dc⟩ lc2 ld U0 W'' := ⟨hB4, n17.only o18 (by simp; exact hE.apart 5 4 rfl l18 u18 l17 u17), n18, ((oa.keep o17 fun b hm h => hE.apart 4 0 rfl l17 u17 (oa.ge b hm).1 (ua b hm) (List.mem_singleton.1 h)).keep o18 fun b hm h => hE.apart 5 0 rfl l18 u18 (oa.ge b hm).1 (ua b hm) (List.mem_singleton.1 h)).base_le k0, ((ob.keep o17 fun b hm h => hE.apart 4 1 rfl l17 u17 (ob.ge b hm).1 (ub b hm) (List.mem_singleton.1 h)).keep o18 fun b hm h => hE.apart 5 1 rfl l18 u18 (ob.ge b hm).1 (ub b hm) (List.mem_singleton.1 h)).base_le k1, ((oc.onlyG o17 fun hm => hE.apart 4 2 rfl l17 u17 (oc.ge _ hm).1 (uc _ hm) rfl).onlyG o18 fun hm => hE.apart 5 2 rfl l18 u18 (oc.ge _ hm).1 (uc _ hm) rfl).base_le k2, ((od.onlyG o17 fun hm => hE.apart 4 3 rfl l17 u17 (od.ge _ hm).1 (ud _ hm) rfl).onlyG o18 fun hm => hE.apart 5 3 rfl l18 u18 (od.ge _ hm).1 (ud _ hm) rfl).base_le k3⟩
 have dab := Lib.hid (show ∀ q ∈ ea.fp, q ∉ eb.fp from fun q h h' => hE.apart 0 1 rfl (oa.ge q h).1 (ua q h) (ob.ge q h').1 (ub q h') rfl)
 have dac := Lib.hid (show ∀ q ∈ ea.fp, q ∉ Lst.fp ⟨cA, cc⟩ lc2 from fun q h h' => hE.apart 0 2 rfl (oa.ge q h).1 (ua q h) (oc.ge q h').1 (uc q h') rfl)
 have dad := Lib.hid (show ∀ q ∈ ea.fp, q ∉ Lst.fp ⟨dA, dc⟩ ld from fun q h h' => hE.apart 0 3 rfl (oa.ge q h).1 (ua q h) (od.ge q h').1 (ud q h') rfl)
 have dbc := Lib.hid (show ∀ q ∈ eb.fp, q ∉ Lst.fp ⟨cA, cc⟩ lc2 from fun q h h' => hE.apart 1 2 rfl (ob.ge q h).1 (ub q h) (oc.ge q h').1 (uc q h') rfl)
 have dbd := Lib.hid (show ∀ q ∈ eb.fp, q ∉ Lst.fp ⟨dA, dc⟩ ld from fun q h h' => hE.apart 1 3 rfl (ob.ge q h).1 (ub q h) (od.ge q h').1 (ud q h') rfl)
 have dcd := Lib.hid (show ∀ q ∈ Lst.fp ⟨cA, cc⟩ lc2, q ∉ Lst.fp ⟨dA, dc⟩ ld from fun q h h' => hE.apart 2 3 rfl (oc.ge q h).1 (uc q h) (od.ge q h').1 (ud q h') rfl)
 have da18 := Lib.hid (show g18 ∉ ea.fp from fun h => hE.apart 5 0 rfl l18 u18 (oa.ge _ h).1 (ua _ h) rfl)
 replace hQ := Lib.hid hQ
 replace hTo5 := Lib.hid hTo5
 replace hca := Lib.hid hca
 replace hcb := Lib.hid hcb
 replace pa := Lib.hid pa
 replace pb := Lib.hid pb
 replace pc := Lib.hid pc
 replace pd := Lib.hid pd
 clear hE e0 e1 e2 e3 e4 e5 n17 n18 o17 o18 oa ob oc od ua ub uc ud l17 u17 l18 u18 k17 k18 k0 k1 k2 k3 b17 b18 hBW hB4 c1 c2 c3 c4
 refine callH 16 rfl (by kernel_rfl) (fun K hK => ?_)
 go_simp
 refine hK.out _ _ hT4 (fun _ => ?_)
 clear hK K
 refine callH 17 rfl (by kernel_rfl) (fun K hK => ?_)
 go_simp
 refine hK.out _ _ hT4 (fun _ => wpAnyH_done (by kernel_rfl) ?_ _)
 clear hK K hT4 W W' hS hSW
 rename World => W5
 have sa : ea.wt = e.wt := by rw [← Ex.wt_plain, pa.out, Ex.wt_plain]
 have sb : eb.wt ≤ 1000 := by
  rw [← Ex.wt_plain, pb.out]
  have := Ex.wt_ren (g := chg fr to_) (chg_sz ht) e
  omega
 have sc2 : wtL lc2 = wtL l := by rw [← wtL_plain, pc.out, wtL_plain]
 have sd : wtL ld ≤ 1000 := by
  rw [← wtL_plain, pd.out]
  have := wtL_ren (g := chg fr to_) (chg_sz ht) l
  omega
 have ra : ea.all Hd.rng := by rw [← Ex.all_plain, pa.out, Ex.all_plain]; exact re.out
 have rb : eb.all Hd.rng := by rw [← Ex.all_plain, pb.out]; exact e.ren_rng re.out
 have rc : allL Hd.rng SHd.rng lc2 := by rw [← allL_plain, pc.out, allL_plain]; exact rl.out
 have rd : allL Hd.rng SHd.rng ld := by rw [← allL_plain, pd.out]; exact renS_rng l rl.out
 have za := ea.sz_wt
 have zb := eb.sz_wt
 have zc := szS_wt lc2
 have zd := szS_wt ld
 have w1 := fun W (h : Pq g17 g18 ca cb ea eb ⟨cA, cc⟩ ⟨dA, dc⟩ lc2 ld U0 W) => fewX_ok ea 600 600 rfl W (by omega) h.a.ok (by omega)
 have w2 := fun W (h : Pq g17 g18 ca cb ea eb ⟨cA, cc⟩ ⟨dA, dc⟩ lc2 ld U0 W) => fewX_ok eb 30000 30000 rfl W (by omega) h.b.ok (by omega)
 have w3 := fun W (h : Pq g17 g18 ca cb ea eb ⟨cA, cc⟩ ⟨dA, dc⟩ lc2 ld U0 W) => fewL_ok lc2 ⟨cA, cc⟩ 600 600 rfl W (by omega) h.c.ok (by omega)
 have w4 := fun W (h : Pq g17 g18 ca cb ea eb ⟨cA, cc⟩ ⟨dA, dc⟩ lc2 ld U0 W) => fewL_ok ld ⟨dA, dc⟩ 30000 30000 rfl W (by omega) h.d.ok (by omega)
 have x1 := fun W (h : Pq g17 g18 ca cb ea eb ⟨cA, cc⟩ ⟨dA, dc⟩ lc2 ld U0 W) => theirXR ea W h.a.ok ra (by omega)
 have x2 := fun W (h : Pq g17 g18 ca cb ea eb ⟨cA, cc⟩ ⟨dA, dc⟩ lc2 ld U0 W) => theirXR eb W h.b.ok rb (by omega)
 have x3 := fun W (h : Pq g17 g18 ca cb ea eb ⟨cA, cc⟩ ⟨dA, dc⟩ lc2 ld U0 W) => theirSR lc2 ⟨cA, cc⟩ W h.c.ok rc (by omega)
 have x4 := fun W (h : Pq g17 g18 ca cb ea eb ⟨cA, cc⟩ ⟨dA, dc⟩ lc2 ld U0 W) => theirSR ld ⟨dA, dc⟩ W h.d.ok rd (by omega)
 rw [pa.out] at x1
 rw [pb.out] at x2
 rw [pc.out] at x3
 rw [pd.out] at x4
 unfold aggX at w1 w2 x1 x2
 rw [← hca.out] at w1 x1
 rw [← hcb.out] at w2 x2
 dsimp only at w3 w4 x3 x4
 replace w1 := Lib.hid w1
 replace w2 := Lib.hid w2
 replace w3 := Lib.hid w3
 replace w4 := Lib.hid w4
 replace x1 := Lib.hid x1
 replace x2 := Lib.hid x2
 replace x3 := Lib.hid x3
 replace x4 := Lib.hid x4
 clear sa sb sc2 sd ra rb rc rd za zb zc zd
 have hQ1 := hQ.out
 go_upto_region 9 with (first
  | (refine wpList_load_rowW 30 (.tmp 17) rfl (by rfl) g17 rfl 30 ca (0, 0) _ hQ1.b17 Tryz.underlying30 rfl (by rw [h17]; kernel_rfl) ?_; simp only [Act.put, List.setIfInBounds_toArray, List.set_cons_zero, List.set_cons_succ])
  | (refine wpList_load_rowW 30 (.tmp 18) rfl (by rfl) g18 rfl 30 cb (0, 0) _ hQ1.b18 Tryz.underlying30 rfl (by rw [h18]; kernel_rfl) ?_; simp only [Act.put, List.setIfInBounds_toArray, List.set_cons_zero, List.set_cons_succ])
  | (go_at_call 60; with_reducible refine (w1.out _ hQ1).mono ?_; rintro e w1 ⟨rfl, hb⟩; replace hQ1 := hQ1.new hb; clear hb)
  | (go_at_call 60; with_reducible refine (w2.out _ hQ1).mono ?_; rintro e w1 ⟨rfl, hb⟩; replace hQ1 := hQ1.new hb; clear hb)
  | (go_at_call 61; with_reducible refine (w3.out _ hQ1).mono ?_; rintro e w1 ⟨rfl, hb⟩; replace hQ1 := hQ1.new hb; clear hb)
  | (go_at_call 61; with_reducible refine (w4.out _ hQ1).mono ?_; rintro e w1 ⟨rfl, hb⟩; replace hQ1 := hQ1.new hb; clear hb))
 rename World => W6
 replace hQ1 := hQ1.new ((Below.refl W6.heap.size W6).drew)
 refine wp_region_held (S := Pq g17 g18 ca cb ea eb ⟨cA, cc⟩ ⟨dA, dc⟩ lc2 ld U0) (by kernel_rfl) ?_
 change wpAnyH _ _ _ _ _ _ _ _ (World.drew _)
 generalize W6.drew = U1 at *
 refine takesW [0, 2] (fuel := 30) (by kernel_rfl) (fun _ _ _ _ h => h) hQ1 (by kernel_rfl) (fun K hK => ?_)
 refine TakesW.cons (by rfl) (load_rowA 30 (.tmp 17) rfl g17 rfl ca _ (fun W h => h.b17) Tryz.underlying30 rfl (by rw [h17]; kernel_rfl)) ?_
 simp only [Act.put, List.setIfInBounds_toArray, List.set_cons_zero, List.set_cons_succ]
 refine TakesW.cons (by rfl) (load_rowA 70 (.tmp 13) rfl g13 rfl cx _ (fun W h => (hTo W (hTo5.out W h.u)).b13) Tryz.underlying70 rfl (by rw [h13]; kernel_rfl)) ?_
 simp only [Act.put, List.setIfInBounds_toArray, List.set_cons_zero, List.set_cons_succ]
 refine hK.out _ ?_
 clear hK K
 refine callH 1 rfl (by kernel_rfl) (fun K hK => ?_)
 go_simp
 refine (x1.out _ hQ1).mono ?_
 rintro _ U ⟨⟨_, rfl, xa, rfl, pxa, oxa, -⟩, hb⟩
 replace hQ1 := hQ1.new hb
 refine hK.out _ _ hQ1 (fun _ => ?_)
 clear hK K hb
 refine callH 3 rfl (by kernel_rfl) (fun K hK => ?_)
 go_simp
 have q := rsameE xa x _ oxa.ok (hTo _ (hTo5.out _ hQ1.u)).x
 rw [(Ex.same_iff xa x).2 (pxa.trans px.out.symm)] at q
 unfold aggRX at q
 rw [← hcx.out] at q
 refine q.mono ?_
 rintro _ U ⟨rfl, hb⟩
 clear q pxa oxa
 replace hQ1 := hQ1.new hb
 refine hK.out _ _ hQ1 (fun _ => ?_)
 clear hK K hb
 refine takesW [4, 5, 9, 10, 6, 8] (fuel := 22) (by kernel_rfl) (fun _ _ _ _ h => h) hQ1 (by kernel_rfl) (fun K hK => ?_)
 iterate 4 (refine TakesW.cons (by rfl) (v := ?_) ?_ ?_; rotate_left; (· intro wz hSw; clear hSw; go_simp; try with_reducible rfl); simp only [Act.put, List.setIfInBounds_toArray, List.set_cons_zero, List.set_cons_succ])
 refine TakesW.cons (by rfl) (load_rowA 30 (.tmp 18) rfl g18 rfl cb _ (fun W h => h.b18) Tryz.underlying30 rfl (by rw [h18]; kernel_rfl)) ?_
 simp only [Act.put, List.setIfInBounds_toArray, List.set_cons_zero, List.set_cons_succ]
 refine TakesW.cons (by rfl) (load_rowA 70 (.tmp 13) rfl g13 rfl cx _ (fun W h => (hTo W (hTo5.out W h.u)).b13) Tryz.underlying70 rfl (by rw [h13]; kernel_rfl)) ?_
 simp only [Act.put, List.setIfInBounds_toArray, List.set_cons_zero, List.set_cons_succ]
 refine hK.out _ ?_
 clear hK K
 refine callH 7 rfl (by kernel_rfl) (fun K hK => ?_)
 go_simp
 refine (x2.out _ hQ1).mono ?_
 rintro _ U ⟨⟨_, rfl, xa, rfl, pxa, oxa, -⟩, hb⟩
 replace hQ1 := hQ1.new hb
 refine hK.out _ _ hQ1 (fun _ => ?_)
 clear hK K hb
 refine callH 11 rfl (by kernel_rfl) (fun K hK => ?_)
 go_simp
 refine (r9.out _ (hTo5.out _ hQ1.u)).mono ?_
 rintro _ U ⟨⟨_, rfl, xb, rfl, pxb, oxb, -⟩, hb⟩
 replace oxa := (keep_ex eR _ _).new oxa hb
 replace hQ1 := hQ1.new hb
 refine hK.out _ _ hQ1 (fun _ => ?_)
 clear hK K hb
 refine callH 12 rfl (by kernel_rfl) (fun K hK => ?_)
 go_simp
 have q := rsameE xa xb _ oxa.ok oxb.ok
 rw [(Ex.same_iff xa xb).2 (pxa.trans pxb.symm)] at q
 unfold aggRX at q
 refine q.mono ?_
 rintro _ U ⟨rfl, hb⟩
 clear q pxa pxb oxa oxb
 replace hQ1 := hQ1.new hb
 refine hK.out _ _ hQ1 (fun _ => ?_)
 clear hK K hb
 refine takesW [13, 14, 15, 16, 18] (fuel := 14) (by kernel_rfl) (fun _ _ _ _ h => h) hQ1 (by kernel_rfl) (fun K hK => ?_)
 iterate 5 (refine TakesW.cons (by rfl) (v := ?_) ?_ ?_; rotate_left; (· intro wz hSw; clear hSw; go_simp; try with_reducible rfl); simp only [Act.put, List.setIfInBounds_toArray, List.set_cons_zero, List.set_cons_succ])
 refine hK.out _ ?_
 clear hK K
 refine callH 17 rfl (by kernel_rfl) (fun K hK => ?_)
 go_simp
 refine (x3.out _ hQ1).mono ?_
 rintro _ U ⟨⟨_, rfl, A, c, os, rfl, pxa, oxa, -⟩, hb⟩
 replace hQ1 := hQ1.new hb
 refine hK.out _ _ hQ1 (fun _ => ?_)
 clear hK K hb
 refine callH 19 rfl (by kernel_rfl) (fun K hK => ?_)
 go_simp
 have q := rsameS os ⟨A, c⟩ ⟨sA, sc⟩ s _ oxa.ok (hTo _ (hTo5.out _ hQ1.u)).s
 rw [(sameS_iff os s).2 (pxa.trans ps.out.symm)] at q
 refine q.mono ?_
 rintro _ U ⟨rfl, hb⟩
 clear q pxa oxa
 replace hQ1 := hQ1.new hb
 refine hK.out _ _ hQ1 (fun _ => ?_)
 clear hK K hb
 refine takesW [20, 21, 22, 23, 25, 26, 27] (fuel := 5) (by kernel_rfl) (fun _ _ _ _ h => h) hQ1 (by kernel_rfl) (fun K hK => ?_)
 iterate 7 (refine TakesW.cons (by rfl) (v := ?_) ?_ ?_; rotate_left; (· intro wz hSw; clear hSw; go_simp; try with_reducible rfl); simp only [Act.put, List.setIfInBounds_toArray, List.set_cons_zero, List.set_cons_succ])
 refine hK.out _ ?_
 clear hK K
 refine callH 24 rfl (by kernel_rfl) (fun K hK => ?_)
 go_simp
 refine (x4.out _ hQ1).mono ?_
 rintro _ U ⟨⟨_, rfl, A, c, os, rfl, pxa, oxa, -⟩, hb⟩
 replace hQ1 := hQ1.new hb
 refine hK.out _ _ hQ1 (fun _ => ?_)
 clear hK K hb
 refine callH 28 rfl (by kernel_rfl) (fun K hK => ?_)
 go_simp
 refine (r10.out _ (hTo5.out _ hQ1.u)).mono ?_
 rintro _ U ⟨⟨_, rfl, A2, c2, os2, rfl, pxb, oxb, -⟩, hb⟩
 replace oxa := oxa.new hb
 replace hQ1 := hQ1.new hb
 refine hK.out _ _ hQ1 (fun _ => ?_)
 clear hK K hb
 refine callH 29 rfl (by kernel_rfl) (fun K hK => ?_)
 go_simp
 have q := rsameS os ⟨A, c⟩ ⟨A2, c2⟩ os2 _ oxa.ok oxb.ok
 rw [(sameS_iff os os2).2 (pxa.trans pxb.symm)] at q
 refine q.mono ?_
 rintro _ U ⟨rfl, hb⟩
 clear q pxa pxb oxa oxb
 replace hQ1 := hQ1.new hb
 refine hK.out _ _ hQ1 (fun _ => ?_)
 clear hK K hb
 refine takesW [30, 31] (fuel := 0) (by kernel_rfl) (fun _ _ _ _ h => h) hQ1 (by kernel_rfl) (fun K hK => ?_)
 iterate 2 (refine TakesW.cons (by rfl) (v := ?_) ?_ ?_; rotate_left; (· intro wz hSw; clear hSw; go_simp; try with_reducible rfl); simp only [Act.put, List.setIfInBounds_toArray, List.set_cons_zero, List.set_cons_succ])
 refine hK.out _ ?_
 clear hK K
 refine wpAnyH_done (by kernel_rfl) ?_ _
 clear x1 x2 x3 x4 w1 w2 w3 w4 r9 r10
 go_upto_region 11 with (fail)
 obtain ⟨hU, b17, b18, qa, qb, qc, qd⟩ := hQ1
 have ov := overE ea U0.heap.size _ qa na
 unfold aggX at ov
 rw [← hca.out] at ov
 replace ov := Lib.hid ov
 replace hU := Lib.hid hU
 go_upto_region 12 with (first | (refine wpList_load_rowW 30 (.tmp 17) rfl (by rfl) g17 rfl 30 ca (0, 0) _ b17 Tryz.underlying30 rfl (by rw [h17]; kernel_rfl) ?_; simp only [Act.put, List.setIfInBounds_toArray, List.set_cons_zero, List.set_cons_succ]) | (go_at_call 74; refine ov.out.mono ?_; rintro _ V ⟨rfl, -, ho⟩; clear ov))
 replace hU := Lib.hid (hU.out.trans (ho.below hU.out.size (fun q hq => (qa.ge q hq).1)))
 replace b18 := b18.only ho da18.out
 replace qb := qb.keep ho (fun q hq h => dab.out q h hq)
 replace qc := qc.keep ho (fun q hq h => dac.out q h hq)
 replace qd := qd.keep ho (fun q hq h => dad.out q h hq)
 clear b17 qa ho
 have ov := overE eb U0.heap.size _ qb nb
 unfold aggX at ov
 rw [← hcb.out] at ov
 replace ov := Lib.hid ov
 go_upto_region 13 with (first | (refine wpList_load_rowW 30 (.tmp 18) rfl (by rfl) g18 rfl 30 cb (0, 0) _ b18 Tryz.underlying30 rfl (by rw [h18]; kernel_rfl) ?_; simp only [Act.put, List.setIfInBounds_toArray, List.set_cons_zero, List.set_cons_succ]) | (go_at_call 74; refine ov.out.mono ?_; rintro _ V ⟨rfl, -, ho⟩; clear ov))
 replace hU := Lib.hid (hU.out.trans (ho.below hU.out.size (fun q hq => (qb.ge q hq).1)))
 replace qc := qc.keep ho (fun q hq h => dbc.out q h hq)
 replace qd := qd.keep ho (fun q hq h => dbd.out q h hq)
 clear b18 qb ho
 have ov := overS lc2 ⟨cA, cc⟩ U0.heap.size _ qc nc
 dsimp only at ov
 replace ov := Lib.hid ov
 go_upto_region 14 with (first | (go_at_call 75; refine ov.out.mono ?_; rintro _ V ⟨rfl, -, ho⟩; clear ov))
 replace hU := Lib.hid (hU.out.trans (ho.below hU.out.size (fun q hq => (qc.ge q hq).1)))
 replace qd := qd.keep ho (fun q hq h => dcd.out q h hq)
 clear qc ho
 have ov := overS ld ⟨dA, dc⟩ U0.heap.size _ qd nd
 dsimp only at ov
 replace ov := Lib.hid ov
 go_upto_region 15 with (first | (go_at_call 75; refine ov.out.mono ?_; rintro _ V ⟨rfl, -, ho⟩; clear ov))
 replace hU := (hU.out.trans (ho.below hU.out.size (fun q hq => (qd.ge q hq).1))).drew
 clear qd ho dab dac dad dbc dbd dcd da18
 refine wp_region_held (S := fun W => Below U0.heap.size U0 W) (by kernel_rfl) ?_
 change wpAnyH _ _ _ _ _ _ _ _ (World.drew _)
 generalize World.drew _ = U2 at *
 refine takesW [0, 2] (fuel := 9) (by kernel_rfl) (fun _ _ _ _ h => h) hU (by kernel_rfl) (fun K hK => ?_)
 refine TakesW.cons (by rfl) (load_rowA 30 (.tmp 6) rfl w.heap.size rfl ce _ (fun W h => (hTo W (hTo5.out W h)).b6) Tryz.underlying30 rfl (by rw [h6]; kernel_rfl)) ?_
 simp only [Act.put, List.setIfInBounds_toArray, List.set_cons_zero, List.set_cons_succ]
 refine TakesW.cons (by rfl) (load_rowA 70 (.tmp 13) rfl g13 rfl cx _ (fun W h => (hTo W (hTo5.out W h)).b13) Tryz.underlying70 rfl (by rw [h13]; kernel_rfl)) ?_
 simp only [Act.put, List.setIfInBounds_toArray, List.set_cons_zero, List.set_cons_succ]
 refine hK.out _ ?_
 clear hK K
 refine callH 1 rfl (by kernel_rfl) (fun K hK => ?_)
 go_simp
 refine (t1.out _ (hTo _ (hTo5.out _ hU)).b).mono ?_
 rintro _ U ⟨⟨_, rfl, xa, rfl, pxa, oxa, -⟩, hb⟩
 replace hU := hU.trans (hb.mono hU.size)
 refine hK.out _ _ hU (fun _ => ?_)
 clear hK K hb
 refine callH 3 rfl (by kernel_rfl) (fun K hK => ?_)
 go_simp
 have q := rsameE xa x _ oxa.ok (hTo _ (hTo5.out _ hU)).x
 rw [(Ex.same_iff xa x).2 (pxa.trans px.out.symm)] at q
 unfold aggRX at q
 rw [← hcx.out] at q
 refine q.mono ?_
 rintro _ U ⟨rfl, hb⟩
 clear q pxa oxa
 replace hU := hU.trans (hb.mono hU.size)
 refine hK.out _ _ hU (fun _ => ?_)
 clear hK K hb
 refine takesW [4, 5, 7] (fuel := 4) (by kernel_rfl) (fun _ _ _ _ h => h) hU (by kernel_rfl) (fun K hK => ?_)
 iterate 3 (refine TakesW.cons (by rfl) (v := ?_) ?_ ?_; rotate_left; (· intro wz hSw; clear hSw; go_simp; try with_reducible rfl); simp only [Act.put, List.setIfInBounds_toArray, List.set_cons_zero, List.set_cons_succ])
 refine hK.out _ ?_
 clear hK K
 refine callH 6 rfl (by kernel_rfl) (fun K hK => ?_)
 go_simp
 refine (t3.out _ (hTo _ (hTo5.out _ hU)).b).mono ?_
 rintro _ U ⟨⟨_, rfl, A, c, os, rfl, pxa, oxa, -⟩, hb⟩
 replace hU := hU.trans (hb.mono hU.size)
 refine hK.out _ _ hU (fun _ => ?_)
 clear hK K hb
 refine callH 8 rfl (by kernel_rfl) (fun K hK => ?_)
 go_simp
 have q := rsameS os ⟨A, c⟩ ⟨sA, sc⟩ s _ oxa.ok (hTo _ (hTo5.out _ hU)).s
 rw [(sameS_iff os s).2 (pxa.trans ps.out.symm)] at q
 refine q.mono ?_
 rintro _ U ⟨rfl, hb⟩
 clear q pxa oxa
 replace hU := hU.trans (hb.mono hU.size)
 refine hK.out _ _ hU (fun _ => ?_)
 clear hK K hb
 refine takesW [9, 10] (fuel := 0) (by kernel_rfl) (fun _ _ _ _ h => h) hU (by kernel_rfl) (fun K hK => ?_)
 iterate 2 (refine TakesW.cons (by rfl) (v := ?_) ?_ ?_; rotate_left; (· intro wz hSw; clear hSw; go_simp; try with_reducible rfl); simp only [Act.put, List.setIfInBounds_toArray, List.set_cons_zero, List.set_cons_succ])
 refine hK.out _ ?_
 clear hK K
 refine wpAnyH_done (by kernel_rfl) ?_ _
 have hfin := (hTo _ (hTo5.out _ hU)).b
 replace hfin := Lib.hid hfin
 go_wp2_with fail
 go_ret
 exact ⟨rfl, hfin.out⟩
end Go.Proofs.YtnldbplphgfpeaaGreat
namespace Go.Proofs.YtnldbplphgfpeaaGreat
open Go Go.RowKit Go.Shelf
set_option linter.unusedVariables false
set_option linter.unusedSimpArgs false
set_option maxHeartbeats 8000000
set_option maxRecDepth 100000 in
theorem sameE_no (e : Ex Loc) (w : World) (hok : e.ok eT w) (hs : 20000 < e.sz) : Calls Tryz.prog 10 #[aggX e, aggX e] w fun r w' => r = .returned (.bool false) ∧ Below w.heap.size w w' := by
 have hc := fun w2 (h2 : Below w.heap.size w w2) => countE0 e w2 (hok.below h2)
 have hl := darkE e hs
 have h6 := cellsE_size eT e
 obtain ⟨c, hcc⟩ : ∃ c, c = capE 0 e.sz := ⟨_, rfl⟩
 rw [← hcc] at hc hl
 unfold aggX at hc ⊢
 obtain ⟨ce, hce⟩ : ∃ c, c = (e.cells eT).toArray := ⟨_, rfl⟩
 rw [← hce] at hc h6 ⊢
 have hB0 := (new_below w (.cells ce 30)).alloc (by simp) (.cells ce 30)
 have hb1 := (Blk.new w 30 ce).alloc (.cells ce 30)
 replace hcc := Lib.hid hcc
 replace hce := Lib.hid hce
 replace hc := Lib.hid hc
 replace hl := Lib.hid hl
 clear hok hs
 go_enter Tryz.func10, Tryz.ntmps10
 go_upto_region 1 with (fail)
 generalize (w.alloc (.cells ce 30)).alloc (.cells ce 30) = W0 at *
 go_wp2_with (refine wpList_load_rowW 30 (.tmp 2) rfl (by rfl) w.heap.size rfl 30 ce (0, 0) _ hb1 Tryz.underlying30 rfl (by rw [h6]; kernel_rfl) ?_; refine Shut.out ?_)
 refine shut_mkX ?_
 try simp only [Act.put, List.setIfInBounds_toArray, List.set_cons_zero, List.set_cons_succ]
 go_wp2_with (first | (go_at_call 77; refine (hc.out _ hB0).mono ?_; rintro e w1 ⟨rfl, hB1⟩) | (go_at_call 78; with_reducible refine (hl.out _).mono ?_; rintro e w' ⟨rfl, rfl⟩))
 have hB := below_and hB0 hB1
 clear hB0 hB1 hb1
 go_ret
 exact ⟨rfl, hB⟩
theorem sameS_no (ls : List (St Loc)) (lc : Loc) (w : World) (ht : Thin ls) (hok : Lst.ok eT w lc ls) (hs : 20000 < szS ls) : Calls Tryz.prog 15 #[.slice lc.A ls.length lc.c, .slice lc.A ls.length lc.c] w fun r w' => r = .returned (.bool false) ∧ Below w.heap.size w w' := by
 have hc := countS0 ls lc ht w hok
 have hl := darkS ls hs
 obtain ⟨c, hcc⟩ : ∃ c, c = cntL (nodesS ls) 0 := ⟨_, rfl⟩
 rw [← hcc] at hc hl
 replace hcc := Lib.hid hcc
 replace hc := Lib.hid hc
 replace hl := Lib.hid hl
 go_enter Tryz.func15, Tryz.ntmps15
 go_wp2_with (first | (go_at_call 85; refine (hc.out).mono ?_; rintro e w1 ⟨rfl, hB1⟩) | (go_at_call 78; with_reducible refine (hl.out _).mono ?_; rintro e w' ⟨rfl, rfl⟩))
 go_ret
 exact ⟨rfl, hB1⟩
def zP : Array Value := #[.int .i64 0, .int .i64 0, .slice none 0 0, .slice none 0 0, .slice none 0 0, .slice none 0 0, .int .u8 0, .int .u8 0, .int .u32 0, .int .i64 0, .string ⟨#[]⟩, .slice none 0 0, .slice none 0 0, .slice none 0 0, .slice none 0 0, .slice none 0 0, .int .u8 0, .int .u8 0, .int .u32 0, .int .i64 0, .string ⟨#[]⟩, .slice none 0 0]
set_option maxRecDepth 100000 in
theorem copyP_no (p : Pg Loc) (w : World) (hok : p.ok eT w) (hs : p.Slim) (hz : 20000 < p.sz) : Calls Tryz.prog 23 #[aggP p] w fun r w' => r = .returned (.agg zP) ∧ Below w.heap.size w w' := by
 have hl := fun w2 (h2 : Below w.heap.size w w2) => lightP_ok p w2 (hok.below h2) hs
 rw [decide_eq_false (by omega)] at hl
 unfold zP
 have h22 := Pg.cells_len eT p
 unfold aggP at hl ⊢
 obtain ⟨cs, hcs⟩ : ∃ c, c = (p.cells eT).toArray := ⟨_, rfl⟩
 rw [← hcs] at hl h22 ⊢
 have hB0 := (new_below w (.cells cs 35)).alloc (by simp) (.cells zP 35)
 have hb1 := (Blk.new w 35 cs).alloc (.cells zP 35)
 have hb2 := Blk.new (w.alloc (.cells cs 35)) 35 zP
 rw [World.size_alloc] at hb2
 unfold zP at hB0 hb1 hb2
 replace hcs := Lib.hid hcs
 replace hl := Lib.hid hl
 clear hok hs hz
 go_enter Tryz.func23, Tryz.ntmps23
 go_upto_region 1 with (fail)
 generalize (w.alloc (.cells cs 35)).alloc _ = W0 at *
 refine wp_region_lit ?_
 refine wpList_load_rowW 35 (.tmp 1) rfl (by rfl) w.heap.size rfl 35 cs (0, 0) _ hb1 Tryz.underlying35 rfl (by rw [h22]; kernel_rfl) ?_
 go_upto_region 2 with (go_at_call 20; refine (hl.out _ hB0).mono ?_; rintro e w1 ⟨rfl, hB1⟩)
 have hB01 := below_and hB0 hB1
 have hb := hb2.below hB1 hb2.lt
 have hoS : Only [w.heap.size + 1] w1 (World.setCells w1 (w.heap.size + 1) 0 zP.toList) := only_setCells (b := w.heap.size + 1) _ 0 w1
 have hfin := blk_put6 hb (vs := zP) rfl
 have hth := there_blk_at hb (o := 0) (n := 22) (by decide)
 have hBF := hB01.trans (hoS.below (B := w.heap.size) hB01.size (by simp))
 replace hBF := Lib.hid hBF
 replace hfin := Lib.hid hfin
 clear hb1 hb2 hB1 hB0 hB01 hoS hb
 go_step
 go_step
 go_step
 rename (∀ a w, wpList _ _ _ _ a w → _) => hk
 refine hk _ _ ?_
 clear hk
 refine wpList_store_mid rfl 35 (.tmp 2) (.tmp 10) rfl (w.heap.size + 1) 0 zP rfl (by rfl) hth (by kernel_rfl) (by simp [zP, Value.oneCell']) ?_
 clear hth
 generalize World.setCells w1 (w.heap.size + 1) 0 _ = W2 at *
 go_wp2_with fail
 refine bodyPost_ret (results_cell_row rfl _ _ (w.heap.size + 1) 35 _ (0, 0) _ rfl hfin.out Tryz.underlying35 rfl (by kernel_rfl)) rfl ?_
 exact ⟨rfl, hBF.out⟩
end Go.Proofs.YtnldbplphgfpeaaGreat
