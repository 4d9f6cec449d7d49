/- Lemmas for salvor/salvorlaw29.TreeSmall (part 25); no condition. -/
import Derived.Test.YtnldbplphgfpeaaGreatP24
namespace Go.Proofs.YtnldbplphgfpeaaGreat
open Go Go.RowKit Go.Shelf
set_option linter.unusedVariables false
set_option linter.unusedSimpArgs false
set_option maxHeartbeats 8000000
def ovX (x : Ex Loc) : Ex Loc := .mk x.h x.l (List.replicate x.subs.length leafX)
def ovI (x : In Loc) : In Loc := ⟨99, ovX x.val⟩
theorem ovX_cells (x : Ex Loc) : (ovX x).cells eT = x.cells eT := by
 obtain ⟨h, l, s⟩ := x
 simp [ovX, Ex.cells, Ex.h, Ex.l, Ex.subs]
theorem fps_leaf : ∀ n, fps (List.replicate n leafX) = []
 | 0 => rfl
 | n + 1 => by rw [List.replicate_succ]; show leafX.fp ++ fps (List.replicate n leafX) = []; rw [fps_leaf n]; rfl
theorem fpS_leaf : ∀ n, fpS (List.replicate n leafS) = []
 | 0 => rfl
 | n + 1 => by rw [List.replicate_succ]; show leafS.fp ++ fpS (List.replicate n leafS) = []; rw [fpS_leaf n]; rfl
theorem fpsP_over : ∀ n, fpsP (List.replicate n overP) = []
 | 0 => rfl
 | n + 1 => by
  rw [List.replicate_succ]
  have := fpsP_over n
  simp only [fpsP, List.flatMap_cons] at this ⊢
  rw [this]; rfl
theorem ovX_fp (x : Ex Loc) : (ovX x).fp = x.l.fp := by
 obtain ⟨h, l, s⟩ := x
 show l.fp ++ fps (List.replicate s.length leafX) = l.fp
 rw [fps_leaf, List.append_nil]
theorem ovX_sub {x : Ex Loc} {b : Nat} (h : b ∈ (ovX x).fp) : b ∈ x.fp := by
 rw [ovX_fp] at h
 obtain ⟨hd, l, s⟩ := x
 exact List.mem_append_left _ h
theorem ovX_own {W : World} {base : Nat} {x : Ex Loc} (h : Lex.own eT W base x.l (List.replicate x.subs.length leafX)) : (ovX x).own eT W base := h
theorem fpsI_split {l : List (In Loc)} {k : Nat} {x : In Loc} (h : l[k]? = some x) : fpsI l = fpsI (l.take k) ++ (x.val.fp ++ fpsI (l.drop (k + 1))) := by
 obtain ⟨h1, h2⟩ := List.getElem?_eq_some_iff.1 h
 conv => lhs; rw [← List.take_append_drop k l, fpsI_append, List.drop_eq_getElem_cons h1, h2]
 rfl
theorem fpsP_split {l : List (Pr Loc)} {k : Nat} {x : Pr Loc} (h : l[k]? = some x) : fpsP l = fpsP (l.take k) ++ (x.fp ++ fpsP (l.drop (k + 1))) := by
 obtain ⟨h1, h2⟩ := List.getElem?_eq_some_iff.1 h
 conv => lhs; rw [← List.take_append_drop k l, fpsP_append, List.drop_eq_getElem_cons h1, h2]
 rfl
theorem fpsI_ov {l : List (In Loc)} {b : Nat} (h : b ∈ fpsI (l.map ovI)) : b ∈ fpsI l := by
 obtain ⟨y, hy, hm⟩ := List.mem_flatMap.1 h
 obtain ⟨x, hx, rfl⟩ := List.mem_map.1 hy
 exact List.mem_flatMap.2 ⟨x, hx, ovX_sub hm⟩
structure OvI (w0 : World) (base : Nat) (l : Loc) (is : List (In Loc)) (k n : Nat) (W : World) : Prop where
 kn : k ≤ n
 row : W.ownsRow base 62 7 (.slice l.A n l.c) n (cellsI eT ((is.take k).map ovI ++ is.drop k))
 own1 : ownsI W base ((is.take k).map ovI)
 own2 : ownsI W base (is.drop k)
 on : Only (Lin.fp l is) w0 W
theorem OvI.take {w0 W : World} {base : Nat} {l : Loc} {is : List (In Loc)} {k n : Nat} (h : OvI w0 base l is k n W) (hn : is.length = n) (hk : k < n) (hnd : (Lin.fp l is).Nodup) :
  ∃ (g : Nat) (x : In Loc), is[k]? = some x ∧ l.A = some ⟨g, 0, none⟩ ∧ x.val.own eT W base ∧ x.val.fp.Nodup ∧ (∀ b ∈ x.val.fp, b ∈ Lin.fp l is) ∧ g ∉ x.val.fp ∧ g ∈ Lin.fp l is ∧ CellsAt W ⟨g, k * 7, none⟩ (x.cells eT) ∧
   (∀ W2, Only x.val.fp W W2 → (ovX x.val).own eT W2 base → (W2.cell? ⟨g, k * 7, none⟩ = some (.int .i64 x.bk) ∧ W2.frozen? ⟨g, k * 7, none⟩ = false ∧ g < W2.heap.size) ∧ OvI w0 base l is (k + 1) n (W2.setCell ⟨g, k * 7, none⟩ (.int .i64 99))) := by
 have hx : is[k]? = some (is[k]'(by omega)) := List.getElem?_eq_getElem (by omega)
 generalize is[k]'(by omega) = x at hx
 have hdrop : is.drop k = x :: is.drop (k + 1) := by
  obtain ⟨h1, h2⟩ := List.getElem?_eq_some_iff.1 hx
  rw [List.drop_eq_getElem_cons h1, h2]
 have htake : is.take (k + 1) = is.take k ++ [x] := by
  obtain ⟨h1, h2⟩ := List.getElem?_eq_some_iff.1 hx
  rw [List.take_succ_eq_append_getElem h1, h2]
 have hrow := h.row
 have hown2 := h.own2
 rw [hdrop] at hrow hown2
 obtain ⟨A, c⟩ := l
 obtain ⟨g, cap, hv, _, hglt⟩ := hrow.form (by omega)
 injection hv with hv _ hcp
 subst hv
 subst hcp
 unfold Lin.fp at hnd
 rw [fpsI_split hx] at hnd
 obtain ⟨n1, n2, n3, n4⟩ := nodup_mid hnd
 have n5 : ∀ b ∈ fpsI (is.take k), b ∉ x.val.fp ∧ b ≠ g := fun b hb => by
  have h1 := List.nodup_append.1 hnd
  have h2 := List.nodup_append.1 h1.2.1
  exact ⟨fun hm => h2.2.2 b hb b (List.mem_append_left _ hm) rfl, fun e => h1.2.2 g (by simp [Loc.fp]) b (List.mem_append_left _ hb) e.symm⟩
 have hgx : g ∉ x.val.fp := n2 g (by simp [Loc.fp])
 have hsub : ∀ b ∈ x.val.fp, b ∈ Lin.fp ⟨some ⟨g, 0, none⟩, c⟩ is := fun b hb => by unfold Lin.fp; rw [fpsI_split hx]; simp [hb]
 have hgf : g ∈ Lin.fp ⟨some ⟨g, 0, none⟩, c⟩ is := by simp [Lin.fp, Loc.fp]
 have hlen : ((is.take k).map ovI).length = k := by rw [List.length_map, List.length_take]; omega
 have hxs : cellsI eT ((is.take k).map ovI ++ x :: is.drop (k + 1)) = cellsI eT ((is.take k).map ovI) ++ (x.cells eT ++ cellsI eT (is.drop (k + 1))) := by
  rw [cellsI_append]; rfl
 have hpre : (cellsI eT ((is.take k).map ovI)).length = k * 7 := by rw [cellsI_len, hlen]
 rw [hxs] at hrow
 refine ⟨g, x, hx, rfl, hown2 x (by simp), n1, hsub, hgx, hgf, fun j u hu => ?_, fun W2 ho hov => ?_⟩
 ·have := (own_at hrow hpre j hu).1
  rw [Addr.add_lit]
  exact this
 ·have hrow2 := own_only hrow ho (fun b hb => by simp [Value.ownBlock] at hb; rw [← hb]; exact hgx)
  obtain ⟨q1, q2, q3⟩ := own_at hrow2 hpre 0 (u := .int .i64 x.bk) rfl
  rw [Nat.add_zero] at q1 q2
  have hrow3 := own_put_at hrow2 hpre 0 (by rw [In.cells_len]; omega) (.int .i64 99)
  rw [Nat.add_zero] at hrow3
  have hO3 : Only [g] W2 (W2.setCell ⟨g, k * 7, none⟩ (.int .i64 99)) := (Only.refl [g] W2).setCell (.inl (by simp)) _
  refine ⟨⟨q1, q2, q3⟩, by omega, ?_, ?_, ?_, (h.on.trans (ho.more fun b hb _ => hsub b hb)).trans (hO3.more fun b hb _ => by rw [List.mem_singleton] at hb; rw [hb]; exact hgf)⟩
  ·rw [htake, List.map_append, List.append_assoc, cellsI_append]
   have e : (x.cells eT).set 0 (.int .i64 99) = (ovI x).cells eT := by
    show _ = .int .i64 99 :: (ovX x.val).cells eT
    rw [ovX_cells]
    rfl
   rw [e] at hrow3
   exact hrow3
  ·rw [htake, List.map_append]
   intro y hy
   rcases List.mem_append.1 hy with hy | hy
   ·have hyo := h.own1 y hy
    have hyf : ∀ b ∈ y.val.fp, b ∈ fpsI (is.take k) := fun b hb => fpsI_ov (List.mem_flatMap.2 ⟨y, hy, hb⟩)
    exact (hyo.keep ho fun b hb => (n5 b (hyf b hb)).1).keep hO3 fun b hb hm => (n5 b (hyf b hb)).2 (by simpa using hm)
   ·rw [List.map_cons, List.map_nil, List.mem_singleton] at hy
    subst hy
    exact hov.keep hO3 fun b hb hm => by rw [List.mem_singleton] at hm; subst hm; exact hgx (ovX_sub hb)
  ·intro y hy
   have hyo := hown2 y (by simp [hy])
   have hyf : ∀ b ∈ y.val.fp, b ∈ fpsI (is.drop (k + 1)) := fun b hb => List.mem_flatMap.2 ⟨y, hy, hb⟩
   exact (hyo.keep ho fun b hb => n3 b (hyf b hb)).keep hO3 fun b hb hm => by rw [List.mem_singleton] at hm; subst hm; exact n4 b (hyf b hb) (by simp [Loc.fp])
structure OvP (w0 : World) (base : Nat) (l : Loc) (ls : List (Pr Loc)) (k n : Nat) (W : World) : Prop where
 kn : k ≤ n
 row : W.ownsRow base 64 3 (.slice l.A n l.c) n (cellsP (List.replicate k overP ++ ls.drop k))
 own : ownsP W base (ls.drop k)
 on : Only (Lpr.fp l ls) w0 W
theorem OvP.take {w0 W : World} {base : Nat} {l : Loc} {ls : List (Pr Loc)} {k n : Nat} (h : OvP w0 base l ls k n W) (hn : ls.length = n) (hk : k < n) (hnd : (Lpr.fp l ls).Nodup) :
  ∃ (g : Nat) (x : Pr Loc), ls[k]? = some x ∧ l.A = some ⟨g, 0, none⟩ ∧ x.own W base ∧ x.fp.Nodup ∧ (∀ b ∈ x.fp, b ∈ Lpr.fp l ls) ∧ g ∉ x.fp ∧ g ∈ Lpr.fp l ls ∧
   (∀ W2, Only x.fp W W2 → CellsAt W2 ⟨g, k * 3, none⟩ x.cells ∧ W2.there g (k * 3) 3 ∧ OvP w0 base l ls (k + 1) n (W2.setCells g (k * 3) overP.cells)) := by
 have hx : ls[k]? = some (ls[k]'(by omega)) := List.getElem?_eq_getElem (by omega)
 generalize ls[k]'(by omega) = x at hx
 have hdrop : ls.drop k = x :: ls.drop (k + 1) := by
  obtain ⟨h1, h2⟩ := List.getElem?_eq_some_iff.1 hx
  rw [List.drop_eq_getElem_cons h1, h2]
 have hrow := h.row
 have hown := h.own
 rw [hdrop] at hrow hown
 obtain ⟨A, c⟩ := l
 obtain ⟨g, cap, hv, _, hglt⟩ := hrow.form (by omega)
 injection hv with hv _ hcp
 subst hv
 subst hcp
 unfold Lpr.fp at hnd
 rw [fpsP_split hx] at hnd
 obtain ⟨n1, n2, n3, n4⟩ := nodup_mid hnd
 have hgx : g ∉ x.fp := n2 g (by simp [Loc.fp])
 have hsub : ∀ b ∈ x.fp, b ∈ Lpr.fp ⟨some ⟨g, 0, none⟩, c⟩ ls := fun b hb => by unfold Lpr.fp; rw [fpsP_split hx]; simp [hb]
 have hgf : g ∈ Lpr.fp ⟨some ⟨g, 0, none⟩, c⟩ ls := by simp [Lpr.fp, Loc.fp]
 have hxs : cellsP (List.replicate k overP ++ x :: ls.drop (k + 1)) = cellsP (List.replicate k overP) ++ (x.cells ++ cellsP (ls.drop (k + 1))) := by
  rw [cellsP_append]; rfl
 have hpre : (cellsP (List.replicate k overP)).length = k * 3 := by rw [cellsP_len, List.length_replicate]
 rw [hxs] at hrow
 refine ⟨g, x, hx, rfl, hown x (by simp), n1, hsub, hgx, hgf, fun W2 ho => ?_⟩
 have hrow2 := own_only hrow ho (fun b hb => by simp [Value.ownBlock] at hb; rw [← hb]; exact hgx)
 have hrow3 := own_putN overP.cells x.cells _ _ _ _ hrow2 hpre rfl
 have hO3 : Only [g] W2 (W2.setCells g (k * 3) overP.cells) := only_setCells _ _ _
 refine ⟨fun j u hu => ?_, own_there hrow2 hpre, by omega, ?_, ?_, (h.on.trans (ho.more fun b hb _ => hsub b hb)).trans (hO3.more fun b hb _ => by rw [List.mem_singleton] at hb; rw [hb]; exact hgf)⟩
 ·have := (own_at hrow2 hpre j hu).1
  rw [Addr.add_lit]
  exact this
 ·rw [List.replicate_succ', List.append_assoc, cellsP_append]
  exact hrow3
 ·intro y hy
  have hyo := hown y (by simp [hy])
  have hyf : ∀ b ∈ y.fp, b ∈ fpsP (ls.drop (k + 1)) := fun b hb => List.mem_flatMap.2 ⟨y, hy, hb⟩
  exact (keep_pr base y).only ((keep_pr base y).only hyo ho fun b hb => n3 b (hyf b hb)) hO3 fun b hb hm => by rw [List.mem_singleton] at hm; subst hm; exact n4 b (hyf b hb) (by simp [Loc.fp])
def overG (p : Pg Loc) : Pg Loc := ⟨p.bl, p.wd, p.li, List.replicate p.ins.length overD, p.lg, List.replicate p.gh.length overD, p.lv, List.replicate p.va.length overD, p.la, List.replicate p.ar.length overD, ovX p.req, p.ln, p.inits.map ovI, p.lpr, List.replicate p.procs.length overP, p.lw, List.replicate p.work.length leafS, p.lr, List.replicate p.recov.length leafS, ovX p.inv⟩
theorem inits_sub {l : Loc} {is : List (In Loc)} {b : Nat} (h : b ∈ Lin.fp l (is.map ovI)) : b ∈ Lin.fp l is := by
 rcases List.mem_append.1 h with h | h
 ·exact List.mem_append_left _ h
 ·exact List.mem_append_right _ (fpsI_ov h)
theorem procs_sub {l : Loc} {is : List (Pr Loc)} {n b : Nat} (h : b ∈ Lpr.fp l (List.replicate n overP)) : b ∈ Lpr.fp l is := by
 rcases List.mem_append.1 h with h | h
 ·exact List.mem_append_left _ h
 ·rw [fpsP_over] at h; cases h
theorem lst_sub {l : Loc} {is : List (St Loc)} {n b : Nat} (h : b ∈ Lst.fp l (List.replicate n leafS)) : b ∈ Lst.fp l is := by
 rcases List.mem_append.1 h with h | h
 ·exact List.mem_append_left _ h
 ·rw [fpS_leaf] at h; cases h
set_option maxRecDepth 100000 in
theorem over_ok (p : Pg Loc) (base : Nat) (w : World) (ho : p.own w base) (hn : p.fp.Nodup) : Calls Tryz.prog 59 #[aggP p] w fun r w' => r = .returned (.tuple #[]) ∧ (overG p).own w' base ∧ Only p.fp w w' := by
 obtain ⟨bl, wd, ⟨A2, c2⟩, ins, ⟨A3, c3⟩, gh, ⟨A4, c4⟩, va, ⟨A5, c5⟩, ar, ⟨⟨rk, ro, rv, rwd, rn⟩, ⟨rA, rc⟩, rs⟩, ⟨A7, c7⟩, inits, ⟨A8, c8⟩, procs, ⟨A9, c9⟩, work, ⟨A10, c10⟩, recov, ⟨⟨ik, io, iv, iwd, inn⟩, ⟨iA, ic⟩, is⟩⟩ := p
 have hge := ho.ge
 have hsum : ∀ b, ((Loc.mk A2 c2).fp).count b + ((Loc.mk A3 c3).fp).count b + ((Loc.mk A4 c4).fp).count b + ((Loc.mk A5 c5).fp).count b + ((Ex.mk ⟨rk, ro, rv, rwd, rn⟩ (⟨rA, rc⟩ : Loc) rs).fp).count b + (Lin.fp ⟨A7, c7⟩ inits).count b + (Lpr.fp ⟨A8, c8⟩ procs).count b + (Lst.fp ⟨A9, c9⟩ work).count b + (Lst.fp ⟨A10, c10⟩ recov).count b + ((Ex.mk ⟨ik, io, iv, iwd, inn⟩ (⟨iA, ic⟩ : Loc) is).fp).count b ≤ 1 := fun b => by
  have h1 := List.nodup_iff_count.1 hn b
  simp only [Pg.fp, List.count_append] at h1
  omega
 have dj_0_1 : Hid (∀ b, b ∈ (Loc.mk A2 c2).fp → b ∈ (Loc.mk A3 c3).fp → False) := Lib.hid fun b hb hm => by have h1 := hsum b; have h2 := List.count_pos_iff.2 hb; have h3 := List.count_pos_iff.2 hm; omega
 have dj_0_2 : Hid (∀ b, b ∈ (Loc.mk A2 c2).fp → b ∈ (Loc.mk A4 c4).fp → False) := Lib.hid fun b hb hm => by have h1 := hsum b; have h2 := List.count_pos_iff.2 hb; have h3 := List.count_pos_iff.2 hm; omega
 have dj_0_3 : Hid (∀ b, b ∈ (Loc.mk A2 c2).fp → b ∈ (Loc.mk A5 c5).fp → False) := Lib.hid fun b hb hm => by have h1 := hsum b; have h2 := List.count_pos_iff.2 hb; have h3 := List.count_pos_iff.2 hm; omega
 have dj_0_4 : Hid (∀ b, b ∈ (Loc.mk A2 c2).fp → b ∈ (Ex.mk ⟨rk, ro, rv, rwd, rn⟩ (⟨rA, rc⟩ : Loc) rs).fp → False) := Lib.hid fun b hb hm => by have h1 := hsum b; have h2 := List.count_pos_iff.2 hb; have h3 := List.count_pos_iff.2 hm; omega
 have dj_0_5 : Hid (∀ b, b ∈ (Loc.mk A2 c2).fp → b ∈ Lin.fp ⟨A7, c7⟩ inits → False) := Lib.hid fun b hb hm => by have h1 := hsum b; have h2 := List.count_pos_iff.2 hb; have h3 := List.count_pos_iff.2 hm; omega
 have dj_0_6 : Hid (∀ b, b ∈ (Loc.mk A2 c2).fp → b ∈ Lpr.fp ⟨A8, c8⟩ procs → False) := Lib.hid fun b hb hm => by have h1 := hsum b; have h2 := List.count_pos_iff.2 hb; have h3 := List.count_pos_iff.2 hm; omega
 have dj_0_7 : Hid (∀ b, b ∈ (Loc.mk A2 c2).fp → b ∈ Lst.fp ⟨A9, c9⟩ work → False) := Lib.hid fun b hb hm => by have h1 := hsum b; have h2 := List.count_pos_iff.2 hb; have h3 := List.count_pos_iff.2 hm; omega
 have dj_0_8 : Hid (∀ b, b ∈ (Loc.mk A2 c2).fp → b ∈ Lst.fp ⟨A10, c10⟩ recov → False) := Lib.hid fun b hb hm => by have h1 := hsum b; have h2 := List.count_pos_iff.2 hb; have h3 := List.count_pos_iff.2 hm; omega
 have dj_0_9 : Hid (∀ b, b ∈ (Loc.mk A2 c2).fp → b ∈ (Ex.mk ⟨ik, io, iv, iwd, inn⟩ (⟨iA, ic⟩ : Loc) is).fp → False) := Lib.hid fun b hb hm => by have h1 := hsum b; have h2 := List.count_pos_iff.2 hb; have h3 := List.count_pos_iff.2 hm; omega
 have dj_1_2 : Hid (∀ b, b ∈ (Loc.mk A3 c3).fp → b ∈ (Loc.mk A4 c4).fp → False) := Lib.hid fun b hb hm => by have h1 := hsum b; have h2 := List.count_pos_iff.2 hb; have h3 := List.count_pos_iff.2 hm; omega
 have dj_1_3 : Hid (∀ b, b ∈ (Loc.mk A3 c3).fp → b ∈ (Loc.mk A5 c5).fp → False) := Lib.hid fun b hb hm => by have h1 := hsum b; have h2 := List.count_pos_iff.2 hb; have h3 := List.count_pos_iff.2 hm; omega
 have dj_1_4 : Hid (∀ b, b ∈ (Loc.mk A3 c3).fp → b ∈ (Ex.mk ⟨rk, ro, rv, rwd, rn⟩ (⟨rA, rc⟩ : Loc) rs).fp → False) := Lib.hid fun b hb hm => by have h1 := hsum b; have h2 := List.count_pos_iff.2 hb; have h3 := List.count_pos_iff.2 hm; omega
 have dj_1_5 : Hid (∀ b, b ∈ (Loc.mk A3 c3).fp → b ∈ Lin.fp ⟨A7, c7⟩ inits → False) := Lib.hid fun b hb hm => by have h1 := hsum b; have h2 := List.count_pos_iff.2 hb; have h3 := List.count_pos_iff.2 hm; omega
 have dj_1_6 : Hid (∀ b, b ∈ (Loc.mk A3 c3).fp → b ∈ Lpr.fp ⟨A8, c8⟩ procs → False) := Lib.hid fun b hb hm => by have h1 := hsum b; have h2 := List.count_pos_iff.2 hb; have h3 := List.count_pos_iff.2 hm; omega
 have dj_1_7 : Hid (∀ b, b ∈ (Loc.mk A3 c3).fp → b ∈ Lst.fp ⟨A9, c9⟩ work → False) := Lib.hid fun b hb hm => by have h1 := hsum b; have h2 := List.count_pos_iff.2 hb; have h3 := List.count_pos_iff.2 hm; omega
 have dj_1_8 : Hid (∀ b, b ∈ (Loc.mk A3 c3).fp → b ∈ Lst.fp ⟨A10, c10⟩ recov → False) := Lib.hid fun b hb hm => by have h1 := hsum b; have h2 := List.count_pos_iff.2 hb; have h3 := List.count_pos_iff.2 hm; omega
 have dj_1_9 : Hid (∀ b, b ∈ (Loc.mk A3 c3).fp → b ∈ (Ex.mk ⟨ik, io, iv, iwd, inn⟩ (⟨iA, ic⟩ : Loc) is).fp → False) := Lib.hid fun b hb hm => by have h1 := hsum b; have h2 := List.count_pos_iff.2 hb; have h3 := List.count_pos_iff.2 hm; omega
 have dj_2_3 : Hid (∀ b, b ∈ (Loc.mk A4 c4).fp → b ∈ (Loc.mk A5 c5).fp → False) := Lib.hid fun b hb hm => by have h1 := hsum b; have h2 := List.count_pos_iff.2 hb; have h3 := List.count_pos_iff.2 hm; omega
 have dj_2_4 : Hid (∀ b, b ∈ (Loc.mk A4 c4).fp → b ∈ (Ex.mk ⟨rk, ro, rv, rwd, rn⟩ (⟨rA, rc⟩ : Loc) rs).fp → False) := Lib.hid fun b hb hm => by have h1 := hsum b; have h2 := List.count_pos_iff.2 hb; have h3 := List.count_pos_iff.2 hm; omega
 have dj_2_5 : Hid (∀ b, b ∈ (Loc.mk A4 c4).fp → b ∈ Lin.fp ⟨A7, c7⟩ inits → False) := Lib.hid fun b hb hm => by have h1 := hsum b; have h2 := List.count_pos_iff.2 hb; have h3 := List.count_pos_iff.2 hm; omega
 have dj_2_6 : Hid (∀ b, b ∈ (Loc.mk A4 c4).fp → b ∈ Lpr.fp ⟨A8, c8⟩ procs → False) := Lib.hid fun b hb hm => by have h1 := hsum b; have h2 := List.count_pos_iff.2 hb; have h3 := List.count_pos_iff.2 hm; omega
 have dj_2_7 : Hid (∀ b, b ∈ (Loc.mk A4 c4).fp → b ∈ Lst.fp ⟨A9, c9⟩ work → False) := Lib.hid fun b hb hm => by have h1 := hsum b; have h2 := List.count_pos_iff.2 hb; have h3 := List.count_pos_iff.2 hm; omega
 have dj_2_8 : Hid (∀ b, b ∈ (Loc.mk A4 c4).fp → b ∈ Lst.fp ⟨A10, c10⟩ recov → False) := Lib.hid fun b hb hm => by have h1 := hsum b; have h2 := List.count_pos_iff.2 hb; have h3 := List.count_pos_iff.2 hm; omega
 have dj_2_9 : Hid (∀ b, b ∈ (Loc.mk A4 c4).fp → b ∈ (Ex.mk ⟨ik, io, iv, iwd, inn⟩ (⟨iA, ic⟩ : Loc) is).fp → False) := Lib.hid fun b hb hm => by have h1 := hsum b; have h2 := List.count_pos_iff.2 hb; have h3 := List.count_pos_iff.2 hm; omega
 have dj_3_4 : Hid (∀ b, b ∈ (Loc.mk A5 c5).fp → b ∈ (Ex.mk ⟨rk, ro, rv, rwd, rn⟩ (⟨rA, rc⟩ : Loc) rs).fp → False) := Lib.hid fun b hb hm => by have h1 := hsum b; have h2 := List.count_pos_iff.2 hb; have h3 := List.count_pos_iff.2 hm; omega
 have dj_3_5 : Hid (∀ b, b ∈ (Loc.mk A5 c5).fp → b ∈ Lin.fp ⟨A7, c7⟩ inits → False) := Lib.hid fun b hb hm => by have h1 := hsum b; have h2 := List.count_pos_iff.2 hb; have h3 := List.count_pos_iff.2 hm; omega
 have dj_3_6 : Hid (∀ b, b ∈ (Loc.mk A5 c5).fp → b ∈ Lpr.fp ⟨A8, c8⟩ procs → False) := Lib.hid fun b hb hm => by have h1 := hsum b; have h2 := List.count_pos_iff.2 hb; have h3 := List.count_pos_iff.2 hm; omega
 have dj_3_7 : Hid (∀ b, b ∈ (Loc.mk A5 c5).fp → b ∈ Lst.fp ⟨A9, c9⟩ work → False) := Lib.hid fun b hb hm => by have h1 := hsum b; have h2 := List.count_pos_iff.2 hb; have h3 := List.count_pos_iff.2 hm; omega
 have dj_3_8 : Hid (∀ b, b ∈ (Loc.mk A5 c5).fp → b ∈ Lst.fp ⟨A10, c10⟩ recov → False) := Lib.hid fun b hb hm => by have h1 := hsum b; have h2 := List.count_pos_iff.2 hb; have h3 := List.count_pos_iff.2 hm; omega
 have dj_3_9 : Hid (∀ b, b ∈ (Loc.mk A5 c5).fp → b ∈ (Ex.mk ⟨ik, io, iv, iwd, inn⟩ (⟨iA, ic⟩ : Loc) is).fp → False) := Lib.hid fun b hb hm => by have h1 := hsum b; have h2 := List.count_pos_iff.2 hb; have h3 := List.count_pos_iff.2 hm; omega
 have dj_4_5 : Hid (∀ b, b ∈ (Ex.mk ⟨rk, ro, rv, rwd, rn⟩ (⟨rA, rc⟩ : Loc) rs).fp → b ∈ Lin.fp ⟨A7, c7⟩ inits → False) := Lib.hid fun b hb hm => by have h1 := hsum b; have h2 := List.count_pos_iff.2 hb; have h3 := List.count_pos_iff.2 hm; omega
 have dj_4_6 : Hid (∀ b, b ∈ (Ex.mk ⟨rk, ro, rv, rwd, rn⟩ (⟨rA, rc⟩ : Loc) rs).fp → b ∈ Lpr.fp ⟨A8, c8⟩ procs → False) := Lib.hid fun b hb hm => by have h1 := hsum b; have h2 := List.count_pos_iff.2 hb; have h3 := List.count_pos_iff.2 hm; omega
 have dj_4_7 : Hid (∀ b, b ∈ (Ex.mk ⟨rk, ro, rv, rwd, rn⟩ (⟨rA, rc⟩ : Loc) rs).fp → b ∈ Lst.fp ⟨A9, c9⟩ work → False) := Lib.hid fun b hb hm => by have h1 := hsum b; have h2 := List.count_pos_iff.2 hb; have h3 := List.count_pos_iff.2 hm; omega
 have dj_4_8 : Hid (∀ b, b ∈ (Ex.mk ⟨rk, ro, rv, rwd, rn⟩ (⟨rA, rc⟩ : Loc) rs).fp → b ∈ Lst.fp ⟨A10, c10⟩ recov → False) := Lib.hid fun b hb hm => by have h1 := hsum b; have h2 := List.count_pos_iff.2 hb; have h3 := List.count_pos_iff.2 hm; omega
 have dj_4_9 : Hid (∀ b, b ∈ (Ex.mk ⟨rk, ro, rv, rwd, rn⟩ (⟨rA, rc⟩ : Loc) rs).fp → b ∈ (Ex.mk ⟨ik, io, iv, iwd, inn⟩ (⟨iA, ic⟩ : Loc) is).fp → False) := Lib.hid fun b hb hm => by have h1 := hsum b; have h2 := List.count_pos_iff.2 hb; have h3 := List.count_pos_iff.2 hm; omega
 have dj_5_6 : Hid (∀ b, b ∈ Lin.fp ⟨A7, c7⟩ inits → b ∈ Lpr.fp ⟨A8, c8⟩ procs → False) := Lib.hid fun b hb hm => by have h1 := hsum b; have h2 := List.count_pos_iff.2 hb; have h3 := List.count_pos_iff.2 hm; omega
 have dj_5_7 : Hid (∀ b, b ∈ Lin.fp ⟨A7, c7⟩ inits → b ∈ Lst.fp ⟨A9, c9⟩ work → False) := Lib.hid fun b hb hm => by have h1 := hsum b; have h2 := List.count_pos_iff.2 hb; have h3 := List.count_pos_iff.2 hm; omega
 have dj_5_8 : Hid (∀ b, b ∈ Lin.fp ⟨A7, c7⟩ inits → b ∈ Lst.fp ⟨A10, c10⟩ recov → False) := Lib.hid fun b hb hm => by have h1 := hsum b; have h2 := List.count_pos_iff.2 hb; have h3 := List.count_pos_iff.2 hm; omega
 have dj_5_9 : Hid (∀ b, b ∈ Lin.fp ⟨A7, c7⟩ inits → b ∈ (Ex.mk ⟨ik, io, iv, iwd, inn⟩ (⟨iA, ic⟩ : Loc) is).fp → False) := Lib.hid fun b hb hm => by have h1 := hsum b; have h2 := List.count_pos_iff.2 hb; have h3 := List.count_pos_iff.2 hm; omega
 have dj_6_7 : Hid (∀ b, b ∈ Lpr.fp ⟨A8, c8⟩ procs → b ∈ Lst.fp ⟨A9, c9⟩ work → False) := Lib.hid fun b hb hm => by have h1 := hsum b; have h2 := List.count_pos_iff.2 hb; have h3 := List.count_pos_iff.2 hm; omega
 have dj_6_8 : Hid (∀ b, b ∈ Lpr.fp ⟨A8, c8⟩ procs → b ∈ Lst.fp ⟨A10, c10⟩ recov → False) := Lib.hid fun b hb hm => by have h1 := hsum b; have h2 := List.count_pos_iff.2 hb; have h3 := List.count_pos_iff.2 hm; omega
 have dj_6_9 : Hid (∀ b, b ∈ Lpr.fp ⟨A8, c8⟩ procs → b ∈ (Ex.mk ⟨ik, io, iv, iwd, inn⟩ (⟨iA, ic⟩ : Loc) is).fp → False) := Lib.hid fun b hb hm => by have h1 := hsum b; have h2 := List.count_pos_iff.2 hb; have h3 := List.count_pos_iff.2 hm; omega
 have dj_7_8 : Hid (∀ b, b ∈ Lst.fp ⟨A9, c9⟩ work → b ∈ Lst.fp ⟨A10, c10⟩ recov → False) := Lib.hid fun b hb hm => by have h1 := hsum b; have h2 := List.count_pos_iff.2 hb; have h3 := List.count_pos_iff.2 hm; omega
 have dj_7_9 : Hid (∀ b, b ∈ Lst.fp ⟨A9, c9⟩ work → b ∈ (Ex.mk ⟨ik, io, iv, iwd, inn⟩ (⟨iA, ic⟩ : Loc) is).fp → False) := Lib.hid fun b hb hm => by have h1 := hsum b; have h2 := List.count_pos_iff.2 hb; have h3 := List.count_pos_iff.2 hm; omega
 have dj_8_9 : Hid (∀ b, b ∈ Lst.fp ⟨A10, c10⟩ recov → b ∈ (Ex.mk ⟨ik, io, iv, iwd, inn⟩ (⟨iA, ic⟩ : Loc) is).fp → False) := Lib.hid fun b hb hm => by have h1 := hsum b; have h2 := List.count_pos_iff.2 hb; have h3 := List.count_pos_iff.2 hm; omega
 have nd_ins : Hid (((Loc.mk A2 c2).fp).Nodup) := Lib.hid (List.nodup_iff_count.2 fun b => by have h1 := hsum b; omega)
 have sub_ins : Hid (∀ b ∈ (Loc.mk A2 c2).fp, b ∈ (Pg.mk bl wd ⟨A2, c2⟩ ins ⟨A3, c3⟩ gh ⟨A4, c4⟩ va ⟨A5, c5⟩ ar (Ex.mk ⟨rk, ro, rv, rwd, rn⟩ (⟨rA, rc⟩ : Loc) rs) ⟨A7, c7⟩ inits ⟨A8, c8⟩ procs ⟨A9, c9⟩ work ⟨A10, c10⟩ recov (Ex.mk ⟨ik, io, iv, iwd, inn⟩ (⟨iA, ic⟩ : Loc) is)).fp) := Lib.hid fun b hb => by simp only [Pg.fp, List.mem_append]; exact .inl hb
 have nd_gh : Hid (((Loc.mk A3 c3).fp).Nodup) := Lib.hid (List.nodup_iff_count.2 fun b => by have h1 := hsum b; omega)
 have sub_gh : Hid (∀ b ∈ (Loc.mk A3 c3).fp, b ∈ (Pg.mk bl wd ⟨A2, c2⟩ ins ⟨A3, c3⟩ gh ⟨A4, c4⟩ va ⟨A5, c5⟩ ar (Ex.mk ⟨rk, ro, rv, rwd, rn⟩ (⟨rA, rc⟩ : Loc) rs) ⟨A7, c7⟩ inits ⟨A8, c8⟩ procs ⟨A9, c9⟩ work ⟨A10, c10⟩ recov (Ex.mk ⟨ik, io, iv, iwd, inn⟩ (⟨iA, ic⟩ : Loc) is)).fp) := Lib.hid fun b hb => by simp only [Pg.fp, List.mem_append]; exact .inr (.inl hb)
 have nd_va : Hid (((Loc.mk A4 c4).fp).Nodup) := Lib.hid (List.nodup_iff_count.2 fun b => by have h1 := hsum b; omega)
 have sub_va : Hid (∀ b ∈ (Loc.mk A4 c4).fp, b ∈ (Pg.mk bl wd ⟨A2, c2⟩ ins ⟨A3, c3⟩ gh ⟨A4, c4⟩ va ⟨A5, c5⟩ ar (Ex.mk ⟨rk, ro, rv, rwd, rn⟩ (⟨rA, rc⟩ : Loc) rs) ⟨A7, c7⟩ inits ⟨A8, c8⟩ procs ⟨A9, c9⟩ work ⟨A10, c10⟩ recov (Ex.mk ⟨ik, io, iv, iwd, inn⟩ (⟨iA, ic⟩ : Loc) is)).fp) := Lib.hid fun b hb => by simp only [Pg.fp, List.mem_append]; exact .inr (.inr (.inl hb))
 have nd_ar : Hid (((Loc.mk A5 c5).fp).Nodup) := Lib.hid (List.nodup_iff_count.2 fun b => by have h1 := hsum b; omega)
 have sub_ar : Hid (∀ b ∈ (Loc.mk A5 c5).fp, b ∈ (Pg.mk bl wd ⟨A2, c2⟩ ins ⟨A3, c3⟩ gh ⟨A4, c4⟩ va ⟨A5, c5⟩ ar (Ex.mk ⟨rk, ro, rv, rwd, rn⟩ (⟨rA, rc⟩ : Loc) rs) ⟨A7, c7⟩ inits ⟨A8, c8⟩ procs ⟨A9, c9⟩ work ⟨A10, c10⟩ recov (Ex.mk ⟨ik, io, iv, iwd, inn⟩ (⟨iA, ic⟩ : Loc) is)).fp) := Lib.hid fun b hb => by simp only [Pg.fp, List.mem_append]; exact .inr (.inr (.inr (.inl hb)))
 have nd_req : Hid (((Ex.mk ⟨rk, ro, rv, rwd, rn⟩ (⟨rA, rc⟩ : Loc) rs).fp).Nodup) := Lib.hid (List.nodup_iff_count.2 fun b => by have h1 := hsum b; omega)
 have sub_req : Hid (∀ b ∈ (Ex.mk ⟨rk, ro, rv, rwd, rn⟩ (⟨rA, rc⟩ : Loc) rs).fp, b ∈ (Pg.mk bl wd ⟨A2, c2⟩ ins ⟨A3, c3⟩ gh ⟨A4, c4⟩ va ⟨A5, c5⟩ ar (Ex.mk ⟨rk, ro, rv, rwd, rn⟩ (⟨rA, rc⟩ : Loc) rs) ⟨A7, c7⟩ inits ⟨A8, c8⟩ procs ⟨A9, c9⟩ work ⟨A10, c10⟩ recov (Ex.mk ⟨ik, io, iv, iwd, inn⟩ (⟨iA, ic⟩ : Loc) is)).fp) := Lib.hid fun b hb => by simp only [Pg.fp, List.mem_append]; exact .inr (.inr (.inr (.inr (.inl hb))))
 have nd_inits : Hid ((Lin.fp ⟨A7, c7⟩ inits).Nodup) := Lib.hid (List.nodup_iff_count.2 fun b => by have h1 := hsum b; omega)
 have sub_inits : Hid (∀ b ∈ Lin.fp ⟨A7, c7⟩ inits, b ∈ (Pg.mk bl wd ⟨A2, c2⟩ ins ⟨A3, c3⟩ gh ⟨A4, c4⟩ va ⟨A5, c5⟩ ar (Ex.mk ⟨rk, ro, rv, rwd, rn⟩ (⟨rA, rc⟩ : Loc) rs) ⟨A7, c7⟩ inits ⟨A8, c8⟩ procs ⟨A9, c9⟩ work ⟨A10, c10⟩ recov (Ex.mk ⟨ik, io, iv, iwd, inn⟩ (⟨iA, ic⟩ : Loc) is)).fp) := Lib.hid fun b hb => by simp only [Pg.fp, List.mem_append]; exact .inr (.inr (.inr (.inr (.inr (.inl hb)))))
 have nd_procs : Hid ((Lpr.fp ⟨A8, c8⟩ procs).Nodup) := Lib.hid (List.nodup_iff_count.2 fun b => by have h1 := hsum b; omega)
 have sub_procs : Hid (∀ b ∈ Lpr.fp ⟨A8, c8⟩ procs, b ∈ (Pg.mk bl wd ⟨A2, c2⟩ ins ⟨A3, c3⟩ gh ⟨A4, c4⟩ va ⟨A5, c5⟩ ar (Ex.mk ⟨rk, ro, rv, rwd, rn⟩ (⟨rA, rc⟩ : Loc) rs) ⟨A7, c7⟩ inits ⟨A8, c8⟩ procs ⟨A9, c9⟩ work ⟨A10, c10⟩ recov (Ex.mk ⟨ik, io, iv, iwd, inn⟩ (⟨iA, ic⟩ : Loc) is)).fp) := Lib.hid fun b hb => by simp only [Pg.fp, List.mem_append]; exact .inr (.inr (.inr (.inr (.inr (.inr (.inl hb))))))
 have nd_work : Hid ((Lst.fp ⟨A9, c9⟩ work).Nodup) := Lib.hid (List.nodup_iff_count.2 fun b => by have h1 := hsum b; omega)
 have sub_work : Hid (∀ b ∈ Lst.fp ⟨A9, c9⟩ work, b ∈ (Pg.mk bl wd ⟨A2, c2⟩ ins ⟨A3, c3⟩ gh ⟨A4, c4⟩ va ⟨A5, c5⟩ ar (Ex.mk ⟨rk, ro, rv, rwd, rn⟩ (⟨rA, rc⟩ : Loc) rs) ⟨A7, c7⟩ inits ⟨A8, c8⟩ procs ⟨A9, c9⟩ work ⟨A10, c10⟩ recov (Ex.mk ⟨ik, io, iv, iwd, inn⟩ (⟨iA, ic⟩ : Loc) is)).fp) := Lib.hid fun b hb => by simp only [Pg.fp, List.mem_append]; exact .inr (.inr (.inr (.inr (.inr (.inr (.inr (.inl hb)))))))
 have nd_recov : Hid ((Lst.fp ⟨A10, c10⟩ recov).Nodup) := Lib.hid (List.nodup_iff_count.2 fun b => by have h1 := hsum b; omega)
 have sub_recov : Hid (∀ b ∈ Lst.fp ⟨A10, c10⟩ recov, b ∈ (Pg.mk bl wd ⟨A2, c2⟩ ins ⟨A3, c3⟩ gh ⟨A4, c4⟩ va ⟨A5, c5⟩ ar (Ex.mk ⟨rk, ro, rv, rwd, rn⟩ (⟨rA, rc⟩ : Loc) rs) ⟨A7, c7⟩ inits ⟨A8, c8⟩ procs ⟨A9, c9⟩ work ⟨A10, c10⟩ recov (Ex.mk ⟨ik, io, iv, iwd, inn⟩ (⟨iA, ic⟩ : Loc) is)).fp) := Lib.hid fun b hb => by simp only [Pg.fp, List.mem_append]; exact .inr (.inr (.inr (.inr (.inr (.inr (.inr (.inr (.inl hb))))))))
 have nd_inv : Hid (((Ex.mk ⟨ik, io, iv, iwd, inn⟩ (⟨iA, ic⟩ : Loc) is).fp).Nodup) := Lib.hid (List.nodup_iff_count.2 fun b => by have h1 := hsum b; omega)
 have sub_inv : Hid (∀ b ∈ (Ex.mk ⟨ik, io, iv, iwd, inn⟩ (⟨iA, ic⟩ : Loc) is).fp, b ∈ (Pg.mk bl wd ⟨A2, c2⟩ ins ⟨A3, c3⟩ gh ⟨A4, c4⟩ va ⟨A5, c5⟩ ar (Ex.mk ⟨rk, ro, rv, rwd, rn⟩ (⟨rA, rc⟩ : Loc) rs) ⟨A7, c7⟩ inits ⟨A8, c8⟩ procs ⟨A9, c9⟩ work ⟨A10, c10⟩ recov (Ex.mk ⟨ik, io, iv, iwd, inn⟩ (⟨iA, ic⟩ : Loc) is)).fp) := Lib.hid fun b hb => by simp only [Pg.fp, List.mem_append]; exact .inr (.inr (.inr (.inr (.inr (.inr (.inr (.inr (.inr (hb)))))))))
 have h_ins := Lib.hid ho.1
 have h_gh := Lib.hid ho.2
 have h_va := Lib.hid ho.3
 have h_ar := Lib.hid ho.4
 have h_req := Lib.hid ho.5
 have h_inits := Lib.hid ho.6
 have h_procs := Lib.hid ho.7
 have h_work := Lib.hid ho.8
 have h_recov := Lib.hid ho.9
 have h_inv := Lib.hid ho.10
 clear hsum hn ho
 replace hge := Lib.hid hge
 show Calls Tryz.prog 59 #[.agg #[.int .i64 bl, .int .i64 wd, .slice A2 ins.length c2, .slice A3 gh.length c3, .slice A4 va.length c4, .slice A5 ar.length c5, .int .u8 rk, .int .u8 ro, .int .u32 rv, .int .i64 rwd, .string rn, .slice rA rs.length rc, .slice A7 inits.length c7, .slice A8 procs.length c8, .slice A9 work.length c9, .slice A10 recov.length c10, .int .u8 ik, .int .u8 io, .int .u32 iv, .int .i64 iwd, .string inn, .slice iA is.length ic]] w _
 have hB0 := (Below.refl _ w).alloc (Nat.le_refl _) (.cells #[.int .i64 bl, .int .i64 wd, .slice A2 ins.length c2, .slice A3 gh.length c3, .slice A4 va.length c4, .slice A5 ar.length c5, .int .u8 rk, .int .u8 ro, .int .u32 rv, .int .i64 rwd, .string rn, .slice rA rs.length rc, .slice A7 inits.length c7, .slice A8 procs.length c8, .slice A9 work.length c9, .slice A10 recov.length c10, .int .u8 ik, .int .u8 io, .int .u32 iv, .int .i64 iwd, .string inn, .slice iA is.length ic] 35)
 have hbx := Blk.new w 35 #[.int .i64 bl, .int .i64 wd, .slice A2 ins.length c2, .slice A3 gh.length c3, .slice A4 va.length c4, .slice A5 ar.length c5, .int .u8 rk, .int .u8 ro, .int .u32 rv, .int .i64 rwd, .string rn, .slice rA rs.length rc, .slice A7 inits.length c7, .slice A8 procs.length c8, .slice A9 work.length c9, .slice A10 recov.length c10, .int .u8 ik, .int .u8 io, .int .u32 iv, .int .i64 iwd, .string inn, .slice iA is.length ic]
 have hon := Lib.hid (only_of_below (Pg.mk bl wd ⟨A2, c2⟩ ins ⟨A3, c3⟩ gh ⟨A4, c4⟩ va ⟨A5, c5⟩ ar (Ex.mk ⟨rk, ro, rv, rwd, rn⟩ (⟨rA, rc⟩ : Loc) rs) ⟨A7, c7⟩ inits ⟨A8, c8⟩ procs ⟨A9, c9⟩ work ⟨A10, c10⟩ recov (Ex.mk ⟨ik, io, iv, iwd, inn⟩ (⟨iA, ic⟩ : Loc) is)).fp hB0)
 replace h_ins := Lib.hid ((keep_ldc base ⟨A2, c2⟩ ins).new h_ins.out hB0)
 replace h_gh := Lib.hid ((keep_ldc base ⟨A3, c3⟩ gh).new h_gh.out hB0)
 replace h_va := Lib.hid ((keep_ldc base ⟨A4, c4⟩ va).new h_va.out hB0)
 replace h_ar := Lib.hid ((keep_ldc base ⟨A5, c5⟩ ar).new h_ar.out hB0)
 replace h_req := Lib.hid ((keep_ex eT base (Ex.mk ⟨rk, ro, rv, rwd, rn⟩ (⟨rA, rc⟩ : Loc) rs)).new h_req.out hB0)
 replace h_inits := Lib.hid ((keep_lin base ⟨A7, c7⟩ inits).new h_inits.out hB0)
 replace h_procs := Lib.hid ((keep_lpr base ⟨A8, c8⟩ procs).new h_procs.out hB0)
 replace h_work := Lib.hid ((keep_lst eT base ⟨A9, c9⟩ work).new h_work.out hB0)
 replace h_recov := Lib.hid ((keep_lst eT base ⟨A10, c10⟩ recov).new h_recov.out hB0)
 replace h_inv := Lib.hid ((keep_ex eT base (Ex.mk ⟨ik, io, iv, iwd, inn⟩ (⟨iA, ic⟩ : Loc) is)).new h_inv.out hB0)
 clear hB0
 go_enter Tryz.func59, Tryz.ntmps59
 go_upto_region 1 with (fail)
 generalize w.alloc (.cells #[.int .i64 bl, .int .i64 wd, .slice A2 ins.length c2, .slice A3 gh.length c3, .slice A4 va.length c4, .slice A5 ar.length c5, .int .u8 rk, .int .u8 ro, .int .u32 rv, .int .i64 rwd, .string rn, .slice rA rs.length rc, .slice A7 inits.length c7, .slice A8 procs.length c8, .slice A9 work.length c9, .slice A10 recov.length c10, .int .u8 ik, .int .u8 io, .int .u32 iv, .int .i64 iwd, .string inn, .slice iA is.length ic] 35) = W0 at *
 obtain ⟨b, hb⟩ : ∃ b, w.heap.size = b := ⟨_, rfl⟩
 rw [hb] at hbx ⊢
 replace hb := Lib.hid hb
 have v6 := hbx.cell 6
 have v7 := hbx.cell 7
 have v8 := hbx.cell 8
 have v9 := hbx.cell 9
 have v10 := hbx.cell 10
 have v11 := hbx.cell 11
 simp only [List.getElem?_toArray, List.getElem?_cons_zero, List.getElem?_cons_succ] at v6 v7 v8 v9 v10 v11
 have hbl := hbx.lt
 have hc := overE (Ex.mk ⟨rk, ro, rv, rwd, rn⟩ (⟨rA, rc⟩ : Loc) rs) base W0 h_req.out nd_req.out
 simp only [aggX, Ex.cells, eT] at hc
 replace hc := Lib.hid hc
 go_wp2_with fail
 refine hc.out.mono ?_
 rintro e W1 ⟨rfl, hX, hO⟩
 clear hc hbl v6 v7 v8 v9 v10 v11
 replace h_req := Lib.hid (ovX_own (x := (Ex.mk ⟨rk, ro, rv, rwd, rn⟩ (⟨rA, rc⟩ : Loc) rs)) hX)
 clear hX
 replace h_ins := Lib.hid ((keep_ldc base ⟨A2, c2⟩ ins).only h_ins.out hO (fun b hb hm => dj_0_4.out b (hb) hm))
 replace h_gh := Lib.hid ((keep_ldc base ⟨A3, c3⟩ gh).only h_gh.out hO (fun b hb hm => dj_1_4.out b (hb) hm))
 replace h_va := Lib.hid ((keep_ldc base ⟨A4, c4⟩ va).only h_va.out hO (fun b hb hm => dj_2_4.out b (hb) hm))
 replace h_ar := Lib.hid ((keep_ldc base ⟨A5, c5⟩ ar).only h_ar.out hO (fun b hb hm => dj_3_4.out b (hb) hm))
 replace h_inits := Lib.hid ((keep_lin base ⟨A7, c7⟩ inits).only h_inits.out hO (fun b hb hm => dj_4_5.out b hm (hb)))
 replace h_procs := Lib.hid ((keep_lpr base ⟨A8, c8⟩ procs).only h_procs.out hO (fun b hb hm => dj_4_6.out b hm (hb)))
 replace h_work := Lib.hid ((keep_lst eT base ⟨A9, c9⟩ work).only h_work.out hO (fun b hb hm => dj_4_7.out b hm (hb)))
 replace h_recov := Lib.hid ((keep_lst eT base ⟨A10, c10⟩ recov).only h_recov.out hO (fun b hb hm => dj_4_8.out b hm (hb)))
 replace h_inv := Lib.hid ((keep_ex eT base (Ex.mk ⟨ik, io, iv, iwd, inn⟩ (⟨iA, ic⟩ : Loc) is)).only h_inv.out hO (fun b hb hm => dj_4_9.out b hm (hb)))
 replace hbx := hbx.only hO (fun hm => by have := (hge.out b (sub_req.out b hm)).2; have := hb.out; omega)
 replace hon := Lib.hid (hon.out.trans (hO.more fun b hb _ => sub_req.out b hb))
 clear hO
 have v16 := hbx.cell 16
 have v17 := hbx.cell 17
 have v18 := hbx.cell 18
 have v19 := hbx.cell 19
 have v20 := hbx.cell 20
 have v21 := hbx.cell 21
 simp only [List.getElem?_toArray, List.getElem?_cons_zero, List.getElem?_cons_succ] at v16 v17 v18 v19 v20 v21
 have hbl := hbx.lt
 have hc := overE (Ex.mk ⟨ik, io, iv, iwd, inn⟩ (⟨iA, ic⟩ : Loc) is) base W1 h_inv.out nd_inv.out
 simp only [aggX, Ex.cells, eT] at hc
 replace hc := Lib.hid hc
 go_wp2_with fail
 refine hc.out.mono ?_
 rintro e W2 ⟨rfl, hX, hO⟩
 clear hc hbl v16 v17 v18 v19 v20 v21
 replace h_inv := Lib.hid (ovX_own (x := (Ex.mk ⟨ik, io, iv, iwd, inn⟩ (⟨iA, ic⟩ : Loc) is)) hX)
 clear hX
 replace h_ins := Lib.hid ((keep_ldc base ⟨A2, c2⟩ ins).only h_ins.out hO (fun b hb hm => dj_0_9.out b (hb) hm))
 replace h_gh := Lib.hid ((keep_ldc base ⟨A3, c3⟩ gh).only h_gh.out hO (fun b hb hm => dj_1_9.out b (hb) hm))
 replace h_va := Lib.hid ((keep_ldc base ⟨A4, c4⟩ va).only h_va.out hO (fun b hb hm => dj_2_9.out b (hb) hm))
 replace h_ar := Lib.hid ((keep_ldc base ⟨A5, c5⟩ ar).only h_ar.out hO (fun b hb hm => dj_3_9.out b (hb) hm))
 replace h_req := Lib.hid ((keep_ex eT base (ovX (Ex.mk ⟨rk, ro, rv, rwd, rn⟩ (⟨rA, rc⟩ : Loc) rs))).only h_req.out hO (fun b hb hm => dj_4_9.out b (ovX_sub hb) hm))
 replace h_inits := Lib.hid ((keep_lin base ⟨A7, c7⟩ inits).only h_inits.out hO (fun b hb hm => dj_5_9.out b (hb) hm))
 replace h_procs := Lib.hid ((keep_lpr base ⟨A8, c8⟩ procs).only h_procs.out hO (fun b hb hm => dj_6_9.out b (hb) hm))
 replace h_work := Lib.hid ((keep_lst eT base ⟨A9, c9⟩ work).only h_work.out hO (fun b hb hm => dj_7_9.out b (hb) hm))
 replace h_recov := Lib.hid ((keep_lst eT base ⟨A10, c10⟩ recov).only h_recov.out hO (fun b hb hm => dj_8_9.out b (hb) hm))
 replace hbx := hbx.only hO (fun hm => by have := (hge.out b (sub_inv.out b hm)).2; have := hb.out; omega)
 replace hon := Lib.hid (hon.out.trans (hO.more fun b hb _ => sub_inv.out b hb))
 clear hO
 have v12 := hbx.cell 12
 simp only [List.getElem?_toArray, List.getElem?_cons_zero, List.getElem?_cons_succ] at v12
 have hbl := hbx.lt
 obtain ⟨ni, hni⟩ : ∃ n, n = inits.length := ⟨_, rfl⟩
 have hcap := own_cap h_inits.out.1
 have hI0 : OvI W2 base ⟨A7, c7⟩ inits 0 ni W2 := ⟨Nat.zero_le _, by have := h_inits.out.1; rw [← hni] at this; exact this, (fun x hx => by cases hx), h_inits.out.2, Only.refl _ _⟩
 dsimp only at hcap
 have ni0 : (inits.length : Int) ≤ 9223372036854775807 := by omega
 rw [← hni] at v12 ni0
 replace hni := Lib.hid hni
 clear hcap
 go_wp2_with fail
 clear v12 hbl
 go_loopw [15] (fun i wr => ∃ k : Nat, i = .int .i64 k ∧ OvI W2 base ⟨A7, c7⟩ inits k ni wr ∧ Blk wr b 35 #[.int .i64 bl, .int .i64 wd, .slice A2 ins.length c2, .slice A3 gh.length c3, .slice A4 va.length c4, .slice A5 ar.length c5, .int .u8 rk, .int .u8 ro, .int .u32 rv, .int .i64 rwd, .string rn, .slice rA rs.length rc, .slice A7 inits.length c7, .slice A8 procs.length c8, .slice A9 work.length c9, .slice A10 recov.length c10, .int .u8 ik, .int .u8 io, .int .u32 iv, .int .i64 iwd, .string inn, .slice iA is.length ic]) (fun i _ => ni - (intOf i).toNat)
 case atStart => exact ⟨0, rfl, hI0, hbx⟩
 case round =>
  clear hI0 hbx
  obtain ⟨k, rfl, hI, hbx⟩ := hrel
  have k0 : 0 ≤ (k : Int) := by omega
  have hgeb : ∀ q ∈ Lin.fp ⟨A7, c7⟩ inits, q < b := fun q hq => by have := (hge.out q (sub_inits.out q hq)).2; have := hb.out; omega
  by_cases hlt : k < ni
  ·obtain ⟨g, x, hx, hA, hxo, hxn, hxf, hgx, hgf, hcx, hnext⟩ := hI.take hni.out.symm hlt nd_inits.out
   dsimp only at hA
   subst hA
   have hih := overE x.val base wr hxo hxn
   have hbx1 : b ∉ x.val.fp := fun hm => by have := hgeb b (hxf b hm); omega
   have hbg : b ≠ g := fun e => by have := hgeb g hgf; omega
   obtain ⟨xb, ⟨⟨yk, yo, yv, yw, yn⟩, ⟨yA, yc⟩, ys⟩⟩ := x
   dsimp only at hih hbx1 hnext
   obtain ⟨r0, r1, r2, r3, r4, r5, r6⟩ := hcx.c7
   simp only [eT] at r0 r1 r2 r3 r4 r5 r6
   have hgl := cell_lt r0
   dsimp only at hgl
   have v12 := hbx.cell 12
   simp only [List.getElem?_toArray, List.getElem?_cons_zero, List.getElem?_cons_succ] at v12
   have hbl := hbx.lt
   rw [← hni.out] at v12
   have k1 : (k : Int) < (ni : Int) := by omega
   have hne' : g ≠ b := fun e => hbg e.symm
   simp only [aggX, Ex.cells, eT] at hih
   replace hih := Lib.hid hih
   replace hnext := Lib.hid hnext
   replace hbx1 := Lib.hid hbx1
   replace hgeb := Lib.hid hgeb
   clear hx hxo hxn hxf hgx hgf hcx hI
   go_wp2_with fail
   refine hih.out.mono ?_
   rintro e Wa ⟨rfl, hX, hO2⟩
   obtain ⟨⟨q1, q2, q3⟩, hN⟩ := hnext.out Wa hO2 (ovX_own hX)
   replace hbx := hbx.only hO2 hbx1.out
   have hbx2 := hbx.far (p := ⟨g, k * 7, none⟩) hbg (.int .i64 99)
   clear v12 hbl r0 r1 r2 r3 r4 r5 r6 hgl hX hO2
   have v12 := hbx.cell 12
   simp only [List.getElem?_toArray, List.getElem?_cons_zero, List.getElem?_cons_succ] at v12
   have hbl := hbx.lt
   rw [← hni.out] at v12
   replace hN := Lib.hid hN
   have hbx2' := Lib.hid hbx2
   clear hbx2
   try dsimp only at q1
   go_wp2_with fail
   go_roundw
   case rel => exact ⟨k + 1, by go_num, hN.out, hbx2'.out⟩
   case measure => simp [intOf]; omega
  ·obtain rfl : ni = k := by have := hI.kn; omega
   have hrow := hI.row
   have hdr : inits.drop ni = [] := List.drop_eq_nil_of_le (by have := hni.out; omega)
   have htk : inits.take ni = inits := List.take_of_length_le (by have := hni.out; omega)
   rw [hdr, htk, List.append_nil] at hrow
   have ho1 := hI.own1
   rw [htk] at ho1
   have hO := hI.on
   replace h_inits : Hid (Lin.own wr base ⟨A7, c7⟩ (inits.map ovI)) := Lib.hid ⟨by rw [List.length_map, ← hni.out]; exact hrow, ho1⟩
   clear hI hrow ho1
   replace h_ins := Lib.hid ((keep_ldc base ⟨A2, c2⟩ ins).only h_ins.out hO (fun b hb hm => dj_0_5.out b (hb) hm))
   replace h_gh := Lib.hid ((keep_ldc base ⟨A3, c3⟩ gh).only h_gh.out hO (fun b hb hm => dj_1_5.out b (hb) hm))
   replace h_va := Lib.hid ((keep_ldc base ⟨A4, c4⟩ va).only h_va.out hO (fun b hb hm => dj_2_5.out b (hb) hm))
   replace h_ar := Lib.hid ((keep_ldc base ⟨A5, c5⟩ ar).only h_ar.out hO (fun b hb hm => dj_3_5.out b (hb) hm))
   replace h_req := Lib.hid ((keep_ex eT base (ovX (Ex.mk ⟨rk, ro, rv, rwd, rn⟩ (⟨rA, rc⟩ : Loc) rs))).only h_req.out hO (fun b hb hm => dj_4_5.out b (ovX_sub hb) hm))
   replace h_procs := Lib.hid ((keep_lpr base ⟨A8, c8⟩ procs).only h_procs.out hO (fun b hb hm => dj_5_6.out b hm (hb)))
   replace h_work := Lib.hid ((keep_lst eT base ⟨A9, c9⟩ work).only h_work.out hO (fun b hb hm => dj_5_7.out b hm (hb)))
   replace h_recov := Lib.hid ((keep_lst eT base ⟨A10, c10⟩ recov).only h_recov.out hO (fun b hb hm => dj_5_8.out b hm (hb)))
   replace h_inv := Lib.hid ((keep_ex eT base (ovX (Ex.mk ⟨ik, io, iv, iwd, inn⟩ (⟨iA, ic⟩ : Loc) is))).only h_inv.out hO (fun b hb hm => dj_5_9.out b hm (ovX_sub hb)))
   replace hon := Lib.hid (hon.out.trans (hO.more fun b hb _ => sub_inits.out b hb))
   clear hO hgeb hdr htk
   have v13 := hbx.cell 13
   simp only [List.getElem?_toArray, List.getElem?_cons_zero, List.getElem?_cons_succ] at v13
   have hbl := hbx.lt
   obtain ⟨W3, hW3⟩ : ∃ W, W = wr := ⟨_, rfl⟩
   obtain ⟨np, hnp⟩ : ∃ n, n = procs.length := ⟨_, rfl⟩
   have hcap := own_cap h_procs.out.1
   have hI0 : OvP wr base ⟨A8, c8⟩ procs 0 np wr := ⟨Nat.zero_le _, by have := h_procs.out.1; rw [← hnp] at this; exact this, h_procs.out.2, Only.refl _ _⟩
   dsimp only at hcap
   have np0 : (procs.length : Int) ≤ 9223372036854775807 := by omega
   rw [← hnp] at v13 np0
   replace hnp := Lib.hid hnp
   clear hcap
   go_wp2_with fail
   clear v13 hbl
   rw [← hW3] at hI0 hon hbx h_ins h_gh h_va h_ar h_req h_inits h_procs h_work h_recov h_inv ⊢
   clear hW3
   go_loopw [34] (fun i wr => ∃ k : Nat, i = .int .i64 k ∧ OvP W3 base ⟨A8, c8⟩ procs k np wr ∧ Blk wr b 35 #[.int .i64 bl, .int .i64 wd, .slice A2 ins.length c2, .slice A3 gh.length c3, .slice A4 va.length c4, .slice A5 ar.length c5, .int .u8 rk, .int .u8 ro, .int .u32 rv, .int .i64 rwd, .string rn, .slice rA rs.length rc, .slice A7 inits.length c7, .slice A8 procs.length c8, .slice A9 work.length c9, .slice A10 recov.length c10, .int .u8 ik, .int .u8 io, .int .u32 iv, .int .i64 iwd, .string inn, .slice iA is.length ic]) (fun i _ => np - (intOf i).toNat)
   case atStart => exact ⟨0, rfl, hI0, hbx⟩
   case round =>
    clear hI0 hbx
    rename World => wq
    obtain ⟨k, rfl, hI, hbx⟩ := hrel
    have k0 : 0 ≤ (k : Int) := by omega
    have hgeb : ∀ q ∈ Lpr.fp ⟨A8, c8⟩ procs, q < b := fun q hq => by have := (hge.out q (sub_procs.out q hq)).2; have := hb.out; omega
    by_cases hlt : k < np
    ·obtain ⟨g, x, hx, hA, hxo, hxn, hxf, hgx, hgf, hnext⟩ := hI.take hnp.out.symm hlt nd_procs.out
     dsimp only at hA
     subst hA
     have hbx1 : b ∉ x.fp := fun hm => by have := hgeb b (hxf b hm); omega
     have hbg : b ≠ g := fun e => by have := hgeb g hgf; omega
     obtain ⟨pn, ⟨pA, pc⟩, ps, ⟨tA, tc⟩, body⟩ := x
     obtain ⟨hP1, hP2⟩ : Ldc.own wq base ⟨pA, pc⟩ ps ∧ Lst.own eT wq base ⟨tA, tc⟩ body := hxo
     have hxn' : ((Loc.mk pA pc).fp ++ Lst.fp ⟨tA, tc⟩ body).Nodup := hxn
     have d1 := List.nodup_append.1 hxn'
     have hxs : ∀ q, q ∈ (Pr.mk pn ⟨pA, pc⟩ ps ⟨tA, tc⟩ body : Pr Loc).fp ↔ q ∈ (Loc.mk pA pc).fp ∨ q ∈ Lst.fp ⟨tA, tc⟩ body := fun q => List.mem_append
     have hc1 := overS body ⟨tA, tc⟩ base wq hP2 d1.2.1
     obtain ⟨hcx, _⟩ := hnext wq (Only.refl _ _)
     obtain ⟨r0, r1, r2⟩ := hcx.c3
     have hgl := cell_lt r0
     dsimp only at hgl r1 r2
     have v13 := hbx.cell 13
     simp only [List.getElem?_toArray, List.getElem?_cons_zero, List.getElem?_cons_succ] at v13
     have hbl := hbx.lt
     rw [← hnp.out] at v13
     have k1 : (k : Int) < (np : Int) := by omega
     replace hc1 := Lib.hid hc1
     replace hnext := Lib.hid hnext
     replace hbx1 := Lib.hid hbx1
     replace hgeb := Lib.hid hgeb
     replace hxs := Lib.hid hxs
     replace hP1 := Lib.hid hP1
     replace d1 := Lib.hid d1
     clear hx hxn hxf hgx hgf hcx hI hxn' hP2
     go_wp2_with fail
     refine hc1.out.mono ?_
     rintro e Wa ⟨rfl, _, hO2⟩
     have hP3 := (keep_ldc base ⟨pA, pc⟩ ps).only hP1.out hO2 (fun q hq hm => d1.out.2.2 q hq q hm rfl)
     have hc2 := overD_ok ⟨pA, pc⟩ ps base Wa hP3
     have hO2' : Only (Pr.mk pn ⟨pA, pc⟩ ps ⟨tA, tc⟩ body : Pr Loc).fp wq Wa := hO2.more fun q hq _ => (hxs.out q).2 (.inr hq)
     obtain ⟨hcx, _⟩ := hnext.out Wa hO2'
     replace hbx := hbx.only hO2' hbx1.out
     clear r0 r1 r2 hgl v13 hbl
     obtain ⟨r0, r1, r2⟩ := hcx.c3
     have hgl := cell_lt r0
     dsimp only at hgl r1 r2
     have v13 := hbx.cell 13
     simp only [List.getElem?_toArray, List.getElem?_cons_zero, List.getElem?_cons_succ] at v13
     have hbl := hbx.lt
     rw [← hnp.out] at v13
     replace hc2 := Lib.hid hc2
     replace hO2' := Lib.hid hO2'
     clear hP3 hO2 hcx
     go_wp2_with fail
     refine hc2.out.mono ?_
     rintro e Wb ⟨rfl, _, hO3⟩
     have hO3' : Only (Pr.mk pn ⟨pA, pc⟩ ps ⟨tA, tc⟩ body : Pr Loc).fp Wa Wb := hO3.more fun q hq _ => (hxs.out q).2 (.inl hq)
     obtain ⟨_, hth, hN⟩ := hnext.out Wb (hO2'.out.trans hO3')
     replace hbx := hbx.only hO3' hbx1.out
     have hbx2 := hbx.only (only_setCells (b := g) overP.cells (k * 3) Wb) (by simpa using hbg)
     clear r0 r1 r2 hgl v13 hbl
     have v13 := hbx.cell 13
     simp only [List.getElem?_toArray, List.getElem?_cons_zero, List.getElem?_cons_succ] at v13
     have hbl := hbx.lt
     rw [← hnp.out] at v13
     have hgl : g < Wb.heap.size := by
      obtain ⟨u, hu⟩ := Option.isSome_iff_exists.1 (hth 0 (by omega)).1
      exact cell_lt hu
     simp only [overP, Pr.cells, List.length_nil] at hN hbx2
     replace hN := Lib.hid hN
     replace hbx2 := Lib.hid hbx2
     clear hO3 hO3'
     go_wp2_with (refine wpList_store_at 64 (.tmp 55) (.tmp 54) g (k * 3) #[.string ⟨#[111, 118, 101, 114]⟩, .slice none 0 0, .slice none 0 0] rfl rfl hth (by kernel_rfl) (by simp [Value.oneCell']) ?_; refine Shut.out ?_)
     refine shut_mk ?_
     go_wp2_with fail
     go_roundw
     case rel => exact ⟨k + 1, by go_num, hN.out, hbx2.out⟩
     case measure => simp [intOf]; omega
    ·obtain rfl : np = k := by have := hI.kn; omega
     have hrow := hI.row
     have hdr : procs.drop np = [] := List.drop_eq_nil_of_le (by have := hnp.out; omega)
     rw [hdr, List.append_nil] at hrow
     have hO := hI.on
     replace h_procs : Hid (Lpr.own wq base ⟨A8, c8⟩ (List.replicate procs.length overP)) := Lib.hid ⟨by rw [List.length_replicate, ← hnp.out]; exact hrow, fun y hy => by rw [(List.mem_replicate.1 hy).2]; exact ⟨World.ownsRow_nil _ _ _ _, ⟨World.ownsRow_nil _ _ _ _, trivial⟩⟩⟩
     clear hI hrow
     replace h_ins := Lib.hid ((keep_ldc base ⟨A2, c2⟩ ins).only h_ins.out hO (fun b hb hm => dj_0_6.out b (hb) hm))
     replace h_gh := Lib.hid ((keep_ldc base ⟨A3, c3⟩ gh).only h_gh.out hO (fun b hb hm => dj_1_6.out b (hb) hm))
     replace h_va := Lib.hid ((keep_ldc base ⟨A4, c4⟩ va).only h_va.out hO (fun b hb hm => dj_2_6.out b (hb) hm))
     replace h_ar := Lib.hid ((keep_ldc base ⟨A5, c5⟩ ar).only h_ar.out hO (fun b hb hm => dj_3_6.out b (hb) hm))
     replace h_req := Lib.hid ((keep_ex eT base (ovX (Ex.mk ⟨rk, ro, rv, rwd, rn⟩ (⟨rA, rc⟩ : Loc) rs))).only h_req.out hO (fun b hb hm => dj_4_6.out b (ovX_sub hb) hm))
     replace h_inits := Lib.hid ((keep_lin base ⟨A7, c7⟩ (inits.map ovI)).only h_inits.out hO (fun b hb hm => dj_5_6.out b (inits_sub hb) hm))
     replace h_work := Lib.hid ((keep_lst eT base ⟨A9, c9⟩ work).only h_work.out hO (fun b hb hm => dj_6_7.out b hm (hb)))
     replace h_recov := Lib.hid ((keep_lst eT base ⟨A10, c10⟩ recov).only h_recov.out hO (fun b hb hm => dj_6_8.out b hm (hb)))
     replace h_inv := Lib.hid ((keep_ex eT base (ovX (Ex.mk ⟨ik, io, iv, iwd, inn⟩ (⟨iA, ic⟩ : Loc) is))).only h_inv.out hO (fun b hb hm => dj_6_9.out b hm (ovX_sub hb)))
     replace hon := Lib.hid (hon.out.trans (hO.more fun b hb _ => sub_procs.out b hb))
     clear hO hgeb hdr
     have v2 := hbx.cell 2
     have v3 := hbx.cell 3
     have v4 := hbx.cell 4
     have v5 := hbx.cell 5
     simp only [List.getElem?_toArray, List.getElem?_cons_zero, List.getElem?_cons_succ] at v2 v3 v4 v5
     have hbl := hbx.lt
     have hB4 := (Below.refl _ wq).alloc (Nat.le_refl _) (.cells #[.slice A2 ins.length c2, .slice A3 gh.length c3, .slice A4 va.length c4, .slice A5 ar.length c5] 24)
     have hb4 := Blk.new wq 24 #[.slice A2 ins.length c2, .slice A3 gh.length c3, .slice A4 va.length c4, .slice A5 ar.length c5]
     obtain ⟨W4, hW4⟩ : ∃ W, W = wq.alloc (.cells #[.slice A2 ins.length c2, .slice A3 gh.length c3, .slice A4 va.length c4, .slice A5 ar.length c5] 24) := ⟨_, rfl⟩
     obtain ⟨g4, hg4⟩ : ∃ g, wq.heap.size = g := ⟨_, rfl⟩
     rw [← hW4] at hB4 hb4
     rw [hg4] at hb4
     have hbg4 : b < g4 := by omega
     go_wp2_with fail
     rw [← hW4]
     try rw [hg4]
     replace hon := Lib.hid (hon.out.new hB4)
     replace hbx := hbx.below hB4 hbl
     replace h_ins := Lib.hid ((keep_ldc base ⟨A2, c2⟩ ins).new h_ins.out hB4)
     replace h_gh := Lib.hid ((keep_ldc base ⟨A3, c3⟩ gh).new h_gh.out hB4)
     replace h_va := Lib.hid ((keep_ldc base ⟨A4, c4⟩ va).new h_va.out hB4)
     replace h_ar := Lib.hid ((keep_ldc base ⟨A5, c5⟩ ar).new h_ar.out hB4)
     replace h_req := Lib.hid ((keep_ex eT base (ovX (Ex.mk ⟨rk, ro, rv, rwd, rn⟩ (⟨rA, rc⟩ : Loc) rs))).new h_req.out hB4)
     replace h_inits := Lib.hid ((keep_lin base ⟨A7, c7⟩ (inits.map ovI)).new h_inits.out hB4)
     replace h_procs := Lib.hid ((keep_lpr base ⟨A8, c8⟩ (List.replicate procs.length overP)).new h_procs.out hB4)
     replace h_work := Lib.hid ((keep_lst eT base ⟨A9, c9⟩ work).new h_work.out hB4)
     replace h_recov := Lib.hid ((keep_lst eT base ⟨A10, c10⟩ recov).new h_recov.out hB4)
     replace h_inv := Lib.hid ((keep_ex eT base (ovX (Ex.mk ⟨ik, io, iv, iwd, inn⟩ (⟨iA, ic⟩ : Loc) is))).new h_inv.out hB4)
     clear hB4 hW4 hg4 v2 v3 v4 v5 hbl
     refine wp_loop_rounds 5 ?_
     rw [rounds_succ]
     have y0 := hb4.cell 0
     simp only [List.getElem?_toArray, List.getElem?_cons_zero, List.getElem?_cons_succ] at y0
     have hbl := hb4.lt
     have hc := overD_ok ⟨A2, c2⟩ ins base W4 h_ins.out
     replace hc := Lib.hid hc
     go_wp2_with fail
     refine hc.out.mono ?_
     rintro e W5 ⟨rfl, hX, hO⟩
     clear hc y0 hbl
     replace h_ins := Lib.hid hX
     clear hX
     replace hb4 := hb4.only hO (fun hm => by have := (hge.out g4 (sub_ins.out g4 hm)).2; have := hb.out; omega)
     replace h_gh := Lib.hid ((keep_ldc base ⟨A3, c3⟩ gh).only h_gh.out hO (fun b hb hm => dj_0_1.out b hm (hb)))
     replace h_va := Lib.hid ((keep_ldc base ⟨A4, c4⟩ va).only h_va.out hO (fun b hb hm => dj_0_2.out b hm (hb)))
     replace h_ar := Lib.hid ((keep_ldc base ⟨A5, c5⟩ ar).only h_ar.out hO (fun b hb hm => dj_0_3.out b hm (hb)))
     replace h_req := Lib.hid ((keep_ex eT base (ovX (Ex.mk ⟨rk, ro, rv, rwd, rn⟩ (⟨rA, rc⟩ : Loc) rs))).only h_req.out hO (fun b hb hm => dj_0_4.out b hm (ovX_sub hb)))
     replace h_inits := Lib.hid ((keep_lin base ⟨A7, c7⟩ (inits.map ovI)).only h_inits.out hO (fun b hb hm => dj_0_5.out b hm (inits_sub hb)))
     replace h_procs := Lib.hid ((keep_lpr base ⟨A8, c8⟩ (List.replicate procs.length overP)).only h_procs.out hO (fun b hb hm => dj_0_6.out b hm (procs_sub hb)))
     replace h_work := Lib.hid ((keep_lst eT base ⟨A9, c9⟩ work).only h_work.out hO (fun b hb hm => dj_0_7.out b hm (hb)))
     replace h_recov := Lib.hid ((keep_lst eT base ⟨A10, c10⟩ recov).only h_recov.out hO (fun b hb hm => dj_0_8.out b hm (hb)))
     replace h_inv := Lib.hid ((keep_ex eT base (ovX (Ex.mk ⟨ik, io, iv, iwd, inn⟩ (⟨iA, ic⟩ : Loc) is))).only h_inv.out hO (fun b hb hm => dj_0_9.out b hm (ovX_sub hb)))
     replace hbx := hbx.only hO (fun hm => by have := (hge.out b (sub_ins.out b hm)).2; have := hb.out; omega)
     replace hon := Lib.hid (hon.out.trans (hO.more fun b hb _ => sub_ins.out b hb))
     clear hO
     go_wp2_with fail
     rw [rounds_succ]
     have y1 := hb4.cell 1
     simp only [List.getElem?_toArray, List.getElem?_cons_zero, List.getElem?_cons_succ] at y1
     have hbl := hb4.lt
     have hc := overD_ok ⟨A3, c3⟩ gh base W5 h_gh.out
     replace hc := Lib.hid hc
     go_wp2_with fail
     refine hc.out.mono ?_
     rintro e W6 ⟨rfl, hX, hO⟩
     clear hc y1 hbl
     replace h_gh := Lib.hid hX
     clear hX
     replace hb4 := hb4.only hO (fun hm => by have := (hge.out g4 (sub_gh.out g4 hm)).2; have := hb.out; omega)
     replace h_ins := Lib.hid ((keep_ldc base ⟨A2, c2⟩ (List.replicate ins.length overD)).only h_ins.out hO (fun b hb hm => dj_0_1.out b (hb) hm))
     replace h_va := Lib.hid ((keep_ldc base ⟨A4, c4⟩ va).only h_va.out hO (fun b hb hm => dj_1_2.out b hm (hb)))
     replace h_ar := Lib.hid ((keep_ldc base ⟨A5, c5⟩ ar).only h_ar.out hO (fun b hb hm => dj_1_3.out b hm (hb)))
     replace h_req := Lib.hid ((keep_ex eT base (ovX (Ex.mk ⟨rk, ro, rv, rwd, rn⟩ (⟨rA, rc⟩ : Loc) rs))).only h_req.out hO (fun b hb hm => dj_1_4.out b hm (ovX_sub hb)))
     replace h_inits := Lib.hid ((keep_lin base ⟨A7, c7⟩ (inits.map ovI)).only h_inits.out hO (fun b hb hm => dj_1_5.out b hm (inits_sub hb)))
     replace h_procs := Lib.hid ((keep_lpr base ⟨A8, c8⟩ (List.replicate procs.length overP)).only h_procs.out hO (fun b hb hm => dj_1_6.out b hm (procs_sub hb)))
     replace h_work := Lib.hid ((keep_lst eT base ⟨A9, c9⟩ work).only h_work.out hO (fun b hb hm => dj_1_7.out b hm (hb)))
     replace h_recov := Lib.hid ((keep_lst eT base ⟨A10, c10⟩ recov).only h_recov.out hO (fun b hb hm => dj_1_8.out b hm (hb)))
     replace h_inv := Lib.hid ((keep_ex eT base (ovX (Ex.mk ⟨ik, io, iv, iwd, inn⟩ (⟨iA, ic⟩ : Loc) is))).only h_inv.out hO (fun b hb hm => dj_1_9.out b hm (ovX_sub hb)))
     replace hbx := hbx.only hO (fun hm => by have := (hge.out b (sub_gh.out b hm)).2; have := hb.out; omega)
     replace hon := Lib.hid (hon.out.trans (hO.more fun b hb _ => sub_gh.out b hb))
     clear hO
     go_wp2_with fail
     rw [rounds_succ]
     have y2 := hb4.cell 2
     simp only [List.getElem?_toArray, List.getElem?_cons_zero, List.getElem?_cons_succ] at y2
     have hbl := hb4.lt
     have hc := overD_ok ⟨A4, c4⟩ va base W6 h_va.out
     replace hc := Lib.hid hc
     go_wp2_with fail
     refine hc.out.mono ?_
     rintro e W7 ⟨rfl, hX, hO⟩
     clear hc y2 hbl
     replace h_va := Lib.hid hX
     clear hX
     replace hb4 := hb4.only hO (fun hm => by have := (hge.out g4 (sub_va.out g4 hm)).2; have := hb.out; omega)
     replace h_ins := Lib.hid ((keep_ldc base ⟨A2, c2⟩ (List.replicate ins.length overD)).only h_ins.out hO (fun b hb hm => dj_0_2.out b (hb) hm))
     replace h_gh := Lib.hid ((keep_ldc base ⟨A3, c3⟩ (List.replicate gh.length overD)).only h_gh.out hO (fun b hb hm => dj_1_2.out b (hb) hm))
     replace h_ar := Lib.hid ((keep_ldc base ⟨A5, c5⟩ ar).only h_ar.out hO (fun b hb hm => dj_2_3.out b hm (hb)))
     replace h_req := Lib.hid ((keep_ex eT base (ovX (Ex.mk ⟨rk, ro, rv, rwd, rn⟩ (⟨rA, rc⟩ : Loc) rs))).only h_req.out hO (fun b hb hm => dj_2_4.out b hm (ovX_sub hb)))
     replace h_inits := Lib.hid ((keep_lin base ⟨A7, c7⟩ (inits.map ovI)).only h_inits.out hO (fun b hb hm => dj_2_5.out b hm (inits_sub hb)))
     replace h_procs := Lib.hid ((keep_lpr base ⟨A8, c8⟩ (List.replicate procs.length overP)).only h_procs.out hO (fun b hb hm => dj_2_6.out b hm (procs_sub hb)))
     replace h_work := Lib.hid ((keep_lst eT base ⟨A9, c9⟩ work).only h_work.out hO (fun b hb hm => dj_2_7.out b hm (hb)))
     replace h_recov := Lib.hid ((keep_lst eT base ⟨A10, c10⟩ recov).only h_recov.out hO (fun b hb hm => dj_2_8.out b hm (hb)))
     replace h_inv := Lib.hid ((keep_ex eT base (ovX (Ex.mk ⟨ik, io, iv, iwd, inn⟩ (⟨iA, ic⟩ : Loc) is))).only h_inv.out hO (fun b hb hm => dj_2_9.out b hm (ovX_sub hb)))
     replace hbx := hbx.only hO (fun hm => by have := (hge.out b (sub_va.out b hm)).2; have := hb.out; omega)
     replace hon := Lib.hid (hon.out.trans (hO.more fun b hb _ => sub_va.out b hb))
     clear hO
     go_wp2_with fail
     rw [rounds_succ]
     have y3 := hb4.cell 3
     simp only [List.getElem?_toArray, List.getElem?_cons_zero, List.getElem?_cons_succ] at y3
     have hbl := hb4.lt
     have hc := overD_ok ⟨A5, c5⟩ ar base W7 h_ar.out
     replace hc := Lib.hid hc
     go_wp2_with fail
     refine hc.out.mono ?_
     rintro e W8 ⟨rfl, hX, hO⟩
     clear hc y3 hbl
     replace h_ar := Lib.hid hX
     clear hX
     replace hb4 := hb4.only hO (fun hm => by have := (hge.out g4 (sub_ar.out g4 hm)).2; have := hb.out; omega)
     replace h_ins := Lib.hid ((keep_ldc base ⟨A2, c2⟩ (List.replicate ins.length overD)).only h_ins.out hO (fun b hb hm => dj_0_3.out b (hb) hm))
     replace h_gh := Lib.hid ((keep_ldc base ⟨A3, c3⟩ (List.replicate gh.length overD)).only h_gh.out hO (fun b hb hm => dj_1_3.out b (hb) hm))
     replace h_va := Lib.hid ((keep_ldc base ⟨A4, c4⟩ (List.replicate va.length overD)).only h_va.out hO (fun b hb hm => dj_2_3.out b (hb) hm))
     replace h_req := Lib.hid ((keep_ex eT base (ovX (Ex.mk ⟨rk, ro, rv, rwd, rn⟩ (⟨rA, rc⟩ : Loc) rs))).only h_req.out hO (fun b hb hm => dj_3_4.out b hm (ovX_sub hb)))
     replace h_inits := Lib.hid ((keep_lin base ⟨A7, c7⟩ (inits.map ovI)).only h_inits.out hO (fun b hb hm => dj_3_5.out b hm (inits_sub hb)))
     replace h_procs := Lib.hid ((keep_lpr base ⟨A8, c8⟩ (List.replicate procs.length overP)).only h_procs.out hO (fun b hb hm => dj_3_6.out b hm (procs_sub hb)))
     replace h_work := Lib.hid ((keep_lst eT base ⟨A9, c9⟩ work).only h_work.out hO (fun b hb hm => dj_3_7.out b hm (hb)))
     replace h_recov := Lib.hid ((keep_lst eT base ⟨A10, c10⟩ recov).only h_recov.out hO (fun b hb hm => dj_3_8.out b hm (hb)))
     replace h_inv := Lib.hid ((keep_ex eT base (ovX (Ex.mk ⟨ik, io, iv, iwd, inn⟩ (⟨iA, ic⟩ : Loc) is))).only h_inv.out hO (fun b hb hm => dj_3_9.out b hm (ovX_sub hb)))
     replace hbx := hbx.only hO (fun hm => by have := (hge.out b (sub_ar.out b hm)).2; have := hb.out; omega)
     replace hon := Lib.hid (hon.out.trans (hO.more fun b hb _ => sub_ar.out b hb))
     clear hO
     go_wp2_with fail
     have v14 := hbx.cell 14
     simp only [List.getElem?_toArray, List.getElem?_cons_zero, List.getElem?_cons_succ] at v14
     have hbl := hbx.lt
     have hc := overS work ⟨A9, c9⟩ base W8 h_work.out nd_work.out
     replace hc := Lib.hid hc
     try rw [rounds_succ]
     go_wp2_with fail
     refine hc.out.mono ?_
     rintro e W9 ⟨rfl, hX, hO⟩
     clear hc hbl v14
     replace h_work := Lib.hid hX
     clear hX
     replace h_ins := Lib.hid ((keep_ldc base ⟨A2, c2⟩ (List.replicate ins.length overD)).only h_ins.out hO (fun b hb hm => dj_0_7.out b (hb) hm))
     replace h_gh := Lib.hid ((keep_ldc base ⟨A3, c3⟩ (List.replicate gh.length overD)).only h_gh.out hO (fun b hb hm => dj_1_7.out b (hb) hm))
     replace h_va := Lib.hid ((keep_ldc base ⟨A4, c4⟩ (List.replicate va.length overD)).only h_va.out hO (fun b hb hm => dj_2_7.out b (hb) hm))
     replace h_ar := Lib.hid ((keep_ldc base ⟨A5, c5⟩ (List.replicate ar.length overD)).only h_ar.out hO (fun b hb hm => dj_3_7.out b (hb) hm))
     replace h_req := Lib.hid ((keep_ex eT base (ovX (Ex.mk ⟨rk, ro, rv, rwd, rn⟩ (⟨rA, rc⟩ : Loc) rs))).only h_req.out hO (fun b hb hm => dj_4_7.out b (ovX_sub hb) hm))
     replace h_inits := Lib.hid ((keep_lin base ⟨A7, c7⟩ (inits.map ovI)).only h_inits.out hO (fun b hb hm => dj_5_7.out b (inits_sub hb) hm))
     replace h_procs := Lib.hid ((keep_lpr base ⟨A8, c8⟩ (List.replicate procs.length overP)).only h_procs.out hO (fun b hb hm => dj_6_7.out b (procs_sub hb) hm))
     replace h_recov := Lib.hid ((keep_lst eT base ⟨A10, c10⟩ recov).only h_recov.out hO (fun b hb hm => dj_7_8.out b hm (hb)))
     replace h_inv := Lib.hid ((keep_ex eT base (ovX (Ex.mk ⟨ik, io, iv, iwd, inn⟩ (⟨iA, ic⟩ : Loc) is))).only h_inv.out hO (fun b hb hm => dj_7_9.out b hm (ovX_sub hb)))
     replace hbx := hbx.only hO (fun hm => by have := (hge.out b (sub_work.out b hm)).2; have := hb.out; omega)
     replace hon := Lib.hid (hon.out.trans (hO.more fun b hb _ => sub_work.out b hb))
     clear hO
     have v15 := hbx.cell 15
     simp only [List.getElem?_toArray, List.getElem?_cons_zero, List.getElem?_cons_succ] at v15
     have hbl := hbx.lt
     have hc := overS recov ⟨A10, c10⟩ base W9 h_recov.out nd_recov.out
     replace hc := Lib.hid hc
     try rw [rounds_succ]
     go_wp2_with fail
     refine hc.out.mono ?_
     rintro e W10 ⟨rfl, hX, hO⟩
     clear hc hbl v15
     replace h_recov := Lib.hid hX
     clear hX
     replace h_ins := Lib.hid ((keep_ldc base ⟨A2, c2⟩ (List.replicate ins.length overD)).only h_ins.out hO (fun b hb hm => dj_0_8.out b (hb) hm))
     replace h_gh := Lib.hid ((keep_ldc base ⟨A3, c3⟩ (List.replicate gh.length overD)).only h_gh.out hO (fun b hb hm => dj_1_8.out b (hb) hm))
     replace h_va := Lib.hid ((keep_ldc base ⟨A4, c4⟩ (List.replicate va.length overD)).only h_va.out hO (fun b hb hm => dj_2_8.out b (hb) hm))
     replace h_ar := Lib.hid ((keep_ldc base ⟨A5, c5⟩ (List.replicate ar.length overD)).only h_ar.out hO (fun b hb hm => dj_3_8.out b (hb) hm))
     replace h_req := Lib.hid ((keep_ex eT base (ovX (Ex.mk ⟨rk, ro, rv, rwd, rn⟩ (⟨rA, rc⟩ : Loc) rs))).only h_req.out hO (fun b hb hm => dj_4_8.out b (ovX_sub hb) hm))
     replace h_inits := Lib.hid ((keep_lin base ⟨A7, c7⟩ (inits.map ovI)).only h_inits.out hO (fun b hb hm => dj_5_8.out b (inits_sub hb) hm))
     replace h_procs := Lib.hid ((keep_lpr base ⟨A8, c8⟩ (List.replicate procs.length overP)).only h_procs.out hO (fun b hb hm => dj_6_8.out b (procs_sub hb) hm))
     replace h_work := Lib.hid ((keep_lst eT base ⟨A9, c9⟩ (List.replicate work.length leafS)).only h_work.out hO (fun b hb hm => dj_7_8.out b (lst_sub hb) hm))
     replace h_inv := Lib.hid ((keep_ex eT base (ovX (Ex.mk ⟨ik, io, iv, iwd, inn⟩ (⟨iA, ic⟩ : Loc) is))).only h_inv.out hO (fun b hb hm => dj_8_9.out b hm (ovX_sub hb)))
     replace hbx := hbx.only hO (fun hm => by have := (hge.out b (sub_recov.out b hm)).2; have := hb.out; omega)
     replace hon := Lib.hid (hon.out.trans (hO.more fun b hb _ => sub_recov.out b hb))
     clear hO
     go_wp2_with fail
     go_end0
     exact ⟨rfl, ⟨h_ins.out, h_gh.out, h_va.out, h_ar.out, h_req.out, h_inits.out, h_procs.out, h_work.out, h_recov.out, h_inv.out⟩, hon.out⟩
end Go.Proofs.YtnldbplphgfpeaaGreat
