/- Lemmas for salvor/salvorlaw29.TreeSmall (part 24); no condition. -/
import Derived.Test.YtnldbplphgfpeaaGreatP11
namespace Go.Proofs.YtnldbplphgfpeaaGreat
open Go Go.RowKit Go.Shelf
set_option linter.unusedVariables false
set_option linter.unusedSimpArgs false
set_option maxHeartbeats 4000000
theorem shut_mk {p : Prop} (h : p) : Shut p := h
theorem wpList_store_at {P : Program} {ops : Array Oper} {rest : List Oper} {t0 : TypeId} {p0 : String} {af : Array Edge} {a : Act} {w : World} {Q : Exit → Act → World → Prop} (ty : TypeId) (x y : Operand) (b o : Nat) (cells : Array Value)
  (hx : a.eval x = .pointer (some ⟨b, o, none⟩)) (hy : a.eval y = .agg cells) (ht : w.there b o cells.size) (hi : (P.info? ty).map (·.size) = some cells.size) (h1 : cells.all (·.oneCell') = true)
  (h : wpList P ops Q rest (a.put none undef) (w.setCells b o cells.toList)) : wpList P ops Q ({ dst := none, op := .store ty x y, type := t0, pos := p0, after := af, guard := none } :: rest) a w :=
 wpList_store_mid rfl ty x y rfl b o cells hx hy ht hi h1 h
def leafX : Ex Loc := .mk ⟨99, 0, 0, 0, ⟨#[]⟩⟩ ⟨none, 0⟩ []
def leafS : St Loc := .mk ⟨99, ⟨#[]⟩, 0⟩ ⟨none, 0⟩ ⟨none, 0⟩ ⟨none, 0⟩ [] [] []
def overD : Dc := ⟨⟨#[111, 118, 101, 114]⟩, 0, 0⟩
def overP : Pr Loc := ⟨⟨#[111, 118, 101, 114]⟩, ⟨none, 0⟩, [], ⟨none, 0⟩, []⟩
section
variable {w : World} {base e sz n c g : Nat}
theorem own_putN : ∀ (vs old pre post : List Value) (i : Nat) (w : World), w.ownsRow base e sz (.slice (some ⟨g, 0, none⟩) n c) n (pre ++ (old ++ post)) → pre.length = i → old.length = vs.length →
  (w.setCells g i vs).ownsRow base e sz (.slice (some ⟨g, 0, none⟩) n c) n (pre ++ (vs ++ post))
 | [], old, pre, post, i, w, h, _, hl => by
  obtain rfl : old = [] := List.eq_nil_of_length_eq_zero hl
  exact h
 | v :: vs, [], pre, post, i, w, h, _, hl => by simp at hl
 | v :: vs, x :: old, pre, post, i, w, h, hp, hl => by
  rw [World.setCells]
  have h1 := own_put_at (l := x :: old) h hp 0 (by simp) v
  rw [Nat.add_zero, List.set_cons_zero] at h1
  have h2 := own_putN vs old (pre ++ [v]) post (i + 1) (w.setCell ⟨g, i, none⟩ v) (by simpa using h1) (by simp [hp]) (by simpa using hl)
  simpa using h2
theorem own_there {pre old post : List Value} {i : Nat} (h : w.ownsRow base e sz (.slice (some ⟨g, 0, none⟩) n c) n (pre ++ (old ++ post))) (hi : pre.length = i) : w.there g i old.length := fun j hj => by
 have := own_at h hi j (List.getElem?_eq_getElem hj)
 exact ⟨by rw [this.1]; rfl, this.2.1⟩
end
theorem fps_split {l : List (Ex Loc)} {k : Nat} {x : Ex Loc} (h : l[k]? = some x) : fps l = fps (l.take k) ++ (x.fp ++ fps (l.drop (k + 1))) := by
 obtain ⟨h1, h2⟩ := List.getElem?_eq_some_iff.1 h
 conv => lhs; rw [← List.take_append_drop k l, fps_append, List.drop_eq_getElem_cons h1, h2]
 rfl
theorem fpS_split {l : List (St Loc)} {k : Nat} {x : St Loc} (h : l[k]? = some x) : fpS l = fpS (l.take k) ++ (x.fp ++ fpS (l.drop (k + 1))) := by
 obtain ⟨h1, h2⟩ := List.getElem?_eq_some_iff.1 h
 conv => lhs; rw [← List.take_append_drop k l, fpS_append, List.drop_eq_getElem_cons h1, h2]
 rfl
theorem nodup_mid {a b c d : List Nat} (h : (a ++ (b ++ (c ++ d))).Nodup) : c.Nodup ∧ (∀ x ∈ a, x ∉ c) ∧ (∀ x ∈ d, x ∉ c) ∧ (∀ x ∈ d, x ∉ a) := by
 have h1 := List.nodup_append.1 h
 have h2 := List.nodup_append.1 h1.2.1
 have h3 := List.nodup_append.1 h2.2.1
 exact ⟨h3.1, fun x hx hc => h1.2.2 x hx x (by simp [hc]) rfl, fun x hx hc => h3.2.2 x hc x hx rfl, fun x hx hc => h1.2.2 x hc x (by simp [hx]) rfl⟩
structure OvE (w0 : World) (base : Nat) (l : Loc) (subs : List (Ex Loc)) (fp : List Nat) (k n : Nat) (W : World) : Prop where
 kn : k ≤ n
 row : W.ownsRow base 30 6 (.slice l.A n l.c) n (cellsL eT (List.replicate k leafX ++ subs.drop k))
 own : owns eT W base (subs.drop k)
 on : Only fp w0 W
def OverE (e : Ex Loc) : Prop := ∀ (base : Nat) (w : World), e.own eT w base → e.fp.Nodup → Calls Tryz.prog 74 #[aggX e] w fun r w' =>
 r = .returned (.tuple #[]) ∧ Lex.own eT w' base e.l (List.replicate e.subs.length leafX) ∧ Only e.fp w w'
theorem OvE.take {w0 W : World} {base : Nat} {l : Loc} {subs : List (Ex Loc)} {fp : List Nat} {k n : Nat} (h : OvE w0 base l subs fp k n W) (hn : subs.length = n) (hk : k < n) (hnd : (Lex.fp l subs).Nodup) (hfp : ∀ b ∈ Lex.fp l subs, b ∈ fp) :
  ∃ (g : Nat) (x : Ex Loc), subs[k]? = some x ∧ l.A = some ⟨g, 0, none⟩ ∧ x ∈ subs ∧ x.own eT W base ∧ x.fp.Nodup ∧ (∀ b ∈ x.fp, b ∈ fp) ∧ g ∉ x.fp ∧ g ∈ fp ∧ CellsAt W ⟨g, k * 6, none⟩ (x.cells eT) ∧
   (∀ W2, Only x.fp W W2 → W2.there g (k * 6) 6 ∧ OvE w0 base l subs fp (k + 1) n (W2.setCells g (k * 6) (leafX.cells eT)) ∧ Only (x.fp ++ [g]) W (W2.setCells g (k * 6) (leafX.cells eT))) := by
 have hx : subs[k]? = some (subs[k]'(by omega)) := List.getElem?_eq_getElem (by omega)
 generalize subs[k]'(by omega) = x at hx
 have hdrop : subs.drop k = x :: subs.drop (k + 1) := by
  obtain ⟨h1, h2⟩ := List.getElem?_eq_some_iff.1 hx
  rw [List.drop_eq_getElem_cons h1, h2]
 have hrow := h.row
 have hown := h.own
 rw [hdrop] at hrow hown
 obtain ⟨A, c⟩ := l
 obtain ⟨g, cap, hv, _, hglt⟩ := hrow.form (by omega)
 injection hv with hv _ hcp
 subst hv
 subst hcp
 unfold Lex.fp at hnd
 rw [fps_split hx] at hnd
 obtain ⟨n1, n2, n3, n4⟩ := nodup_mid hnd
 have hgx : g ∉ x.fp := n2 g (by simp [Loc.fp])
 have hsub : ∀ b ∈ x.fp, b ∈ fp := fun b hb => hfp b (by unfold Lex.fp; rw [fps_split hx]; simp [hb])
 have hgf : g ∈ fp := hfp g (by simp [Lex.fp, Loc.fp])
 have hxs : cellsL eT (List.replicate k leafX ++ x :: subs.drop (k + 1)) = cellsL eT (List.replicate k leafX) ++ (x.cells eT ++ cellsL eT (subs.drop (k + 1))) := by
  rw [cellsL_append]; rfl
 have hpre : (cellsL eT (List.replicate k leafX)).length = k * 6 := by rw [cellsL_len, List.length_replicate]
 rw [hxs] at hrow
 refine ⟨g, x, hx, rfl, List.mem_of_getElem? hx, hown.1, n1, hsub, hgx, hgf, fun j u hu => ?_, fun W2 ho => ?_⟩
 ·have := (own_at hrow hpre j hu).1
  rw [Addr.add_lit]
  exact this
 ·have hrow2 := own_only hrow ho (fun b hb => by simp [Value.ownBlock] at hb; rw [← hb]; exact hgx)
  have hrow3 := own_putN (leafX.cells eT) (x.cells eT) _ _ _ _ hrow2 hpre (by rw [Ex.cells_len, Ex.cells_len])
  have hO3 : Only [g] W2 (W2.setCells g (k * 6) (leafX.cells eT)) := only_setCells _ _ _
  have hown2 := owns_keep ho hown.2 n3
  have hown3 := owns_keep hO3 hown2 (fun b hb hm => by rw [List.mem_singleton] at hm; subst hm; exact n4 b hb (by simp [Loc.fp]))
  refine ⟨by have := own_there hrow2 hpre; rwa [Ex.cells_len] at this, ⟨by omega, ?_, hown3, (h.on.trans (ho.more fun b hb _ => hsub b hb)).trans (hO3.more fun b hb _ => by rw [List.mem_singleton] at hb; rw [hb]; exact hgf)⟩, (ho.more fun b hb _ => by simp [hb]).trans (hO3.more fun b hb _ => by simp at hb; simp [hb])⟩
  rw [List.replicate_succ', List.append_assoc, cellsL_append]
  exact hrow3
set_option maxRecDepth 100000 in
theorem overE : ∀ e : Ex Loc, OverE e := by
 intro e
 induction e using Ex.ind with
 | h hd l subs ih =>
 obtain ⟨zk, zo, zv, zw, zn⟩ := hd
 obtain ⟨A, c⟩ := l
 intro base w ho hnd
 have hge := ho.ge
 obtain ⟨n, hn⟩ : ∃ n, n = subs.length := ⟨_, rfl⟩
 have hm := own_cap ho.1
 rw [← hn] at hm
 show Calls Tryz.prog 74 #[.agg #[.int .u8 zk, .int .u8 zo, .int .u32 zv, .int .i64 zw, .string zn, .slice A subs.length c]] w _
 show Calls _ _ _ _ fun r w' => r = .returned (.tuple #[]) ∧ Lex.own eT w' base ⟨A, c⟩ (List.replicate subs.length leafX) ∧ Only (Lex.fp ⟨A, c⟩ subs) w w'
 rw [← hn]
 have hB0 := (Below.refl _ w).alloc (Nat.le_refl _) (.cells #[.int .u8 zk, .int .u8 zo, .int .u32 zv, .int .i64 zw, .string zn, .slice A n c] 30)
 have hb0 := Blk.new w 30 #[.int .u8 zk, .int .u8 zo, .int .u32 zv, .int .i64 zw, .string zn, .slice A n c]
 have h0 : OvE w base ⟨A, c⟩ subs (Lex.fp ⟨A, c⟩ subs) 0 n (w.alloc (.cells #[.int .u8 zk, .int .u8 zo, .int .u32 zv, .int .i64 zw, .string zn, .slice A n c] 30)) := by
  refine ⟨Nat.zero_le _, ?_, owns_keep (only_of_below [] hB0) ho.2 (by simp), only_of_below _ hB0⟩
  have := own_only ho.1 (only_of_below [] hB0) (by simp)
  rw [← hn] at this
  exact this
 replace hnd := Lib.hid hnd
 replace hge := Lib.hid hge
 replace ih := Lib.hid ih
 have hn' := Lib.hid hn
 clear hn ho hB0
 have n0 : (n : Int) ≤ 9223372036854775807 := by omega
 clear hm
 go_enter Tryz.func74, Tryz.ntmps74
 go_upto_region 1 with (fail)
 generalize w.alloc (.cells #[.int .u8 zk, .int .u8 zo, .int .u32 zv, .int .i64 zw, .string zn, .slice A n c] 30) = W0 at *
 obtain ⟨b, hb⟩ : ∃ b, w.heap.size = b := ⟨_, rfl⟩
 rw [hb] at hb0 ⊢
 replace hb := Lib.hid hb
 have c5 := hb0.cell 5
 simp only [List.getElem?_toArray, List.getElem?_cons_zero, List.getElem?_cons_succ] at c5
 have hbl := hb0.lt
 go_wp2_with fail
 clear c5 hbl
 go_loopw [6] (fun i wr => ∃ k : Nat, i = .int .i64 k ∧ OvE w base ⟨A, c⟩ subs (Lex.fp ⟨A, c⟩ subs) k n wr ∧ Blk wr b 30 #[.int .u8 zk, .int .u8 zo, .int .u32 zv, .int .i64 zw, .string zn, .slice A n c]) (fun i _ => n - (intOf i).toNat)
 case atStart => exact ⟨0, rfl, h0, hb0⟩
 case round =>
  clear h0 hb0
  obtain ⟨k, rfl, hI, hbk⟩ := hrel
  have k0 : 0 ≤ (k : Int) := by omega
  by_cases hlt : k < n
  ·obtain ⟨g, x, hx, hA, hmem, hxo, hxn, hxf, hgx, hgf, hc, hnext⟩ := hI.take hn'.out.symm hlt hnd.out (fun b hb => hb)
   dsimp only at hA
   subst hA
   have hih := ih.out x hmem base wr hxo hxn
   obtain ⟨⟨yk, yo, yv, yw, yn⟩, ⟨yA, yc⟩, ys⟩ := x
   obtain ⟨r0, r1, r2, r3, r4, r5⟩ := hc.c6
   simp only [eT] at r0 r1 r2 r3 r4 r5
   have c5 := hbk.cell 5
   simp only [List.getElem?_toArray, List.getElem?_cons_zero, List.getElem?_cons_succ] at c5
   have hbl := hbk.lt
   have hgl := cell_lt r0
   dsimp only at hgl
   have k1 : (k : Int) < (n : Int) := by omega
   have hbx : b ∉ (Ex.mk ⟨yk, yo, yv, yw, yn⟩ ⟨yA, yc⟩ ys).fp := fun hm => by
    have := (hge.out b (hxf b hm)).2
    have := hb.out
    omega
   have hbg : b ≠ g := fun e => by
    have := (hge.out g hgf).2
    have := hb.out
    omega
   simp only [aggX, Ex.cells, eT] at hih
   replace hih := Lib.hid hih
   replace hnext := Lib.hid hnext
   replace hxf := Lib.hid hxf
   replace hgx := Lib.hid hgx
   replace hbx := Lib.hid hbx
   clear hx hmem hxo hxn hgf hc hI
   go_wp2_with fail
   refine hih.out.mono ?_
   rintro e W2 ⟨rfl, _, hO2⟩
   obtain ⟨hth, hN, hO3⟩ := hnext.out W2 hO2
   simp only [leafX, Ex.cells, eT, List.length_nil] at hN hO3
   have hbk2 := hbk.only hO2 hbx.out
   have hbk3 := hbk.only hO3 (by simp only [List.mem_append, List.mem_singleton]; exact fun h => h.elim hbx.out hbg)
   clear c5 r0 r1 r2 r3 r4 r5 hbl hgl
   have c5 := hbk2.cell 5
   simp only [List.getElem?_toArray, List.getElem?_cons_zero, List.getElem?_cons_succ] at c5
   have hbl := hbk2.lt
   have hgl : g < W2.heap.size := by
    have := (hth 0 (by omega)).1
    obtain ⟨u, hu⟩ := Option.isSome_iff_exists.1 this
    exact cell_lt hu
   replace hN := Lib.hid hN
   replace hO3 := Lib.hid hO3
   go_wp2_with (refine wpList_store_at 30 (.tmp 19) (.tmp 18) g (k * 6) #[.int .u8 99, .int .u8 0, .int .u32 0, .int .i64 0, .string ⟨#[]⟩, .slice none 0 0] rfl rfl hth (by kernel_rfl) (by simp [Value.oneCell']) ?_; refine Shut.out ?_)
   refine shut_mk ?_
   go_wp2_with fail
   go_roundw
   case rel => exact ⟨k + 1, by go_num, hN.out, hbk3⟩
   case measure => simp [intOf]; omega
  ·obtain rfl : k = n := by have := hI.kn; omega
   have hrow := hI.row
   have hdr : subs.drop k = [] := List.drop_eq_nil_of_le (by have := hn'.out; omega)
   rw [hdr, List.append_nil] at hrow
   have hon := hI.on
   clear hI
   have c5 := hbk.cell 5
   go_wp2_with fail
   go_end0
   refine ⟨rfl, ⟨?_, ?_⟩, hon⟩
   ·rw [List.length_replicate]; exact hrow
   ·exact owns_iff.2 fun y hy => by rw [(List.mem_replicate.1 hy).2]; exact ⟨World.ownsRow_nil _ _ _ _, trivial⟩
structure OvS (w0 : World) (base : Nat) (l : Loc) (ls : List (St Loc)) (fp : List Nat) (k n : Nat) (W : World) : Prop where
 kn : k ≤ n
 row : W.ownsRow base 40 6 (.slice l.A n l.c) n (cellsS eT (List.replicate k leafS ++ ls.drop k))
 own : ownS eT W base (ls.drop k)
 on : Only fp w0 W
def OverS (ls : List (St Loc)) : Prop := ∀ (l : Loc) (base : Nat) (w : World), Lst.own eT w base l ls → (Lst.fp l ls).Nodup → Calls Tryz.prog 75 #[.slice l.A ls.length l.c] w fun r w' =>
 r = .returned (.tuple #[]) ∧ Lst.own eT w' base l (List.replicate ls.length leafS) ∧ Only (Lst.fp l ls) w w'
theorem OvS.take {w0 W : World} {base : Nat} {l : Loc} {ls : List (St Loc)} {fp : List Nat} {k n : Nat} (h : OvS w0 base l ls fp k n W) (hn : ls.length = n) (hk : k < n) (hnd : (Lst.fp l ls).Nodup) (hfp : ∀ b ∈ Lst.fp l ls, b ∈ fp) :
  ∃ (g : Nat) (x : St Loc), ls[k]? = some x ∧ l.A = some ⟨g, 0, none⟩ ∧ x ∈ ls ∧ x.own eT W base ∧ x.fp.Nodup ∧ (∀ b ∈ x.fp, b ∈ fp) ∧ g ∉ x.fp ∧ g ∈ fp ∧
   (∀ W2, Only x.fp W W2 → CellsAt W2 ⟨g, k * 6, none⟩ (x.cells eT) ∧ W2.there g (k * 6) 6 ∧ OvS w0 base l ls fp (k + 1) n (W2.setCells g (k * 6) (leafS.cells eT)) ∧ Only (x.fp ++ [g]) W (W2.setCells g (k * 6) (leafS.cells eT))) := by
 have hx : ls[k]? = some (ls[k]'(by omega)) := List.getElem?_eq_getElem (by omega)
 generalize ls[k]'(by omega) = x at hx
 have hdrop : ls.drop k = x :: ls.drop (k + 1) := by
  obtain ⟨h1, h2⟩ := List.getElem?_eq_some_iff.1 hx
  rw [List.drop_eq_getElem_cons h1, h2]
 have hrow := h.row
 have hown := h.own
 rw [hdrop] at hrow hown
 obtain ⟨A, c⟩ := l
 obtain ⟨g, cap, hv, _, hglt⟩ := hrow.form (by omega)
 injection hv with hv _ hcp
 subst hv
 subst hcp
 unfold Lst.fp at hnd
 rw [fpS_split hx] at hnd
 obtain ⟨n1, n2, n3, n4⟩ := nodup_mid hnd
 have hgx : g ∉ x.fp := n2 g (by simp [Loc.fp])
 have hsub : ∀ b ∈ x.fp, b ∈ fp := fun b hb => hfp b (by unfold Lst.fp; rw [fpS_split hx]; simp [hb])
 have hgf : g ∈ fp := hfp g (by simp [Lst.fp, Loc.fp])
 have hxs : cellsS eT (List.replicate k leafS ++ x :: ls.drop (k + 1)) = cellsS eT (List.replicate k leafS) ++ (x.cells eT ++ cellsS eT (ls.drop (k + 1))) := by
  rw [cellsS_append]; rfl
 have hpre : (cellsS eT (List.replicate k leafS)).length = k * 6 := by rw [cellsS_len, List.length_replicate]
 rw [hxs] at hrow
 refine ⟨g, x, hx, rfl, List.mem_of_getElem? hx, hown.1, n1, hsub, hgx, hgf, fun W2 ho => ?_⟩
 have hrow2 := own_only hrow ho (fun b hb => by simp [Value.ownBlock] at hb; rw [← hb]; exact hgx)
 have hrow3 := own_putN (leafS.cells eT) (x.cells eT) _ _ _ _ hrow2 hpre (by rw [St.cells_len, St.cells_len])
 have hO3 : Only [g] W2 (W2.setCells g (k * 6) (leafS.cells eT)) := only_setCells _ _ _
 have hown2 := ownS_keep ho hown.2 n3
 have hown3 := ownS_keep hO3 hown2 (fun b hb hm => by rw [List.mem_singleton] at hm; subst hm; exact n4 b hb (by simp [Loc.fp]))
 refine ⟨fun j u hu => ?_, by have := own_there hrow2 hpre; rwa [St.cells_len] at this, ⟨by omega, ?_, hown3, (h.on.trans (ho.more fun b hb _ => hsub b hb)).trans (hO3.more fun b hb _ => by rw [List.mem_singleton] at hb; rw [hb]; exact hgf)⟩, (ho.more fun b hb _ => by simp [hb]).trans (hO3.more fun b hb _ => by simp at hb; simp [hb])⟩
 ·have := (own_at hrow2 hpre j hu).1
  rw [Addr.add_lit]
  exact this
 ·rw [List.replicate_succ', List.append_assoc, cellsS_append]
  exact hrow3
set_option maxRecDepth 100000 in
theorem overS : ∀ ls : List (St Loc), OverS ls := by
 intro ls
 induction ls using St.list with
 | h ls ih =>
 intro l base w ho hnd
 obtain ⟨A, c⟩ := l
 have hge := ho.ge
 obtain ⟨n, hn⟩ : ∃ n, n = ls.length := ⟨_, rfl⟩
 have hm := own_cap ho.1
 rw [← hn] at hm
 show Calls Tryz.prog 75 #[.slice A ls.length c] w _
 rw [← hn]
 have h0 : OvS w base ⟨A, c⟩ ls (Lst.fp ⟨A, c⟩ ls) 0 n w := ⟨Nat.zero_le _, by have := ho.1; rw [← hn] at this; exact this, ho.2, Only.refl _ _⟩
 replace hnd := Lib.hid hnd
 replace hge := Lib.hid hge
 replace ih := Lib.hid ih
 have hn' := Lib.hid hn
 clear hn ho
 have n0 : (n : Int) ≤ 9223372036854775807 := by omega
 clear hm
 go_enter Tryz.func75, Tryz.ntmps75
 go_wp2_with fail
 go_loopw [6] (fun i wr => ∃ k : Nat, i = .int .i64 k ∧ OvS w base ⟨A, c⟩ ls (Lst.fp ⟨A, c⟩ ls) k n wr) (fun i _ => n - (intOf i).toNat)
 case atStart => exact ⟨0, rfl, h0⟩
 case round =>
  clear h0
  obtain ⟨k, rfl, hI⟩ := hrel
  have k0 : 0 ≤ (k : Int) := by omega
  by_cases hlt : k < n
  ·obtain ⟨g, x, hx, hA, hmem, hxo, hxn, hxf, hgx, hgf, hnext⟩ := hI.take hn'.out.symm hlt hnd.out (fun b hb => hb)
   dsimp only at hA
   subst hA
   have hih := ih.out x hmem
   obtain ⟨⟨yk, yn, yb⟩, ⟨xA, xc⟩, ⟨tA, tc⟩, ⟨eA, ec⟩, yx, yt, ye⟩ := x
   simp only [St.th, St.el] at hih
   obtain ⟨hX, hT, hE⟩ : Lex.own eT wr base ⟨xA, xc⟩ yx ∧ Lst.own eT wr base ⟨tA, tc⟩ yt ∧ Lst.own eT wr base ⟨eA, ec⟩ ye := hxo
   have hxn' : (Lex.fp ⟨xA, xc⟩ yx ++ (Lst.fp ⟨tA, tc⟩ yt ++ Lst.fp ⟨eA, ec⟩ ye)).Nodup := hxn
   have d1 := List.nodup_append.1 hxn'
   have d2 := List.nodup_append.1 d1.2.1
   have hmX := own_cap hX.1
   obtain ⟨m, hm⟩ : ∃ m, m = yx.length := ⟨_, rfl⟩
   rw [← hm] at hmX
   have m0 : (m : Int) ≤ 9223372036854775807 := by omega
   have k1 : (k : Int) < (n : Int) := by omega
   have hd1 : decide ((k : Int) < (n : Int)) = true := by simp; omega
   have hfx : ∀ W2, Only (Lex.fp ⟨xA, xc⟩ yx) wr W2 → Only (St.mk ⟨yk, yn, yb⟩ ⟨xA, xc⟩ ⟨tA, tc⟩ ⟨eA, ec⟩ yx yt ye).fp wr W2 := fun W2 h => h.more fun b hb _ => by
    show b ∈ Lex.fp ⟨xA, xc⟩ yx ++ (Lst.fp ⟨tA, tc⟩ yt ++ Lst.fp ⟨eA, ec⟩ ye)
    simp [hb]
   have hcells : ∀ W2, Only (St.mk ⟨yk, yn, yb⟩ ⟨xA, xc⟩ ⟨tA, tc⟩ ⟨eA, ec⟩ yx yt ye).fp wr W2 → W2.cell? ⟨g, k * 6 + 2, none⟩ = some (.slice xA m xc) ∧ W2.cell? ⟨g, k * 6 + 4, none⟩ = some (.slice tA yt.length tc) ∧ W2.cell? ⟨g, k * 6 + 5, none⟩ = some (.slice eA ye.length ec) ∧ g < W2.heap.size := fun W2 h => by
    obtain ⟨q0, q1, q2, q3, q4, q5⟩ := (hnext W2 h).1.c6
    rw [hm]
    exact ⟨q2, q4, q5, cell_lt q0⟩
   have hX0 : OvE wr base ⟨xA, xc⟩ yx (Lex.fp ⟨xA, xc⟩ yx) 0 m wr := ⟨Nat.zero_le _, by have := hX.1; rw [← hm] at this; exact this, hX.2, Only.refl _ _⟩
   have hdX := d1.1
   replace hih := Lib.hid hih
   replace hnext := Lib.hid hnext
   replace hxf := Lib.hid hxf
   replace hgx := Lib.hid hgx
   replace hfx := Lib.hid hfx
   replace hT := Lib.hid hT
   replace hE := Lib.hid hE
   replace d1 := Lib.hid d1
   replace d2 := Lib.hid d2
   replace hdX := Lib.hid hdX
   have hm' := Lib.hid hm
   obtain ⟨q2, q4, q5, hgl⟩ := hcells wr (Only.refl _ _)
   replace hcells := Lib.hid hcells
   clear hx hmem hxn hxn' hgf hI hm hX hmX
   go_wp2_with fail
   clear q2 q4 q5 hgl
   go_loopw [15] (fun i wx => ∃ j : Nat, i = .int .i64 j ∧ OvE wr base ⟨xA, xc⟩ yx (Lex.fp ⟨xA, xc⟩ yx) j m wx) (fun i _ => m - (intOf i).toNat)
   case atStart => exact ⟨0, rfl, hX0⟩
   case round =>
    clear hX0
    rename World => wx
    obtain ⟨j, rfl, hJ⟩ := hrel
    have j0 : 0 ≤ (j : Int) := by omega
    obtain ⟨q2, q4, q5, hgl⟩ := hcells.out wx (hfx.out wx hJ.on)
    by_cases hlj : j < m
    ·obtain ⟨gx, y, hy, hyA, hymem, hyo, hyn, hyf, hgy, hgyf, hyc, hynext⟩ := hJ.take hm'.out.symm hlj hdX.out (fun b hb => hb)
     dsimp only at hyA
     subst hyA
     have hcE := overE y base wx hyo hyn
     obtain ⟨⟨zk, zo, zv, zw, zn⟩, ⟨zA, zc⟩, zs⟩ := y
     obtain ⟨r0, r1, r2, r3, r4, r5⟩ := hyc.c6
     simp only [eT] at r0 r1 r2 r3 r4 r5
     have hgxl := cell_lt r0
     dsimp only at hgxl
     have j1 : (j : Int) < (m : Int) := by omega
     have hd2 : decide ((j : Int) < (m : Int)) = true := by simp; omega
     simp only [aggX, Ex.cells, eT] at hcE
     replace hcE := Lib.hid hcE
     replace hynext := Lib.hid hynext
     replace hyf := Lib.hid hyf
     have hJ' := Lib.hid hJ
     clear hy hymem hyo hyn hgy hgyf hyc hJ
     go_wp2_with fail
     refine hcE.out.mono ?_
     rintro e W2 ⟨rfl, _, hO2⟩
     obtain ⟨hth, hN, hO3⟩ := hynext.out W2 hO2
     simp only [leafX, Ex.cells, eT, List.length_nil] at hN hO3
     have hO2' := hJ'.out.on.trans (hO2.more fun b hb _ => hyf.out b hb)
     clear q2 q4 q5 hgl r0 r1 r2 r3 r4 r5 hgxl
     obtain ⟨q2, q4, q5, hgl⟩ := hcells.out W2 (hfx.out W2 hO2')
     have hgxl : gx < W2.heap.size := by
      obtain ⟨u, hu⟩ := Option.isSome_iff_exists.1 (hth 0 (by omega)).1
      exact cell_lt hu
     replace hN := Lib.hid hN
     clear hO3 hO2 hO2'
     go_wp2_with (refine wpList_store_at 30 (.tmp 34) (.tmp 33) gx (j * 6) #[.int .u8 99, .int .u8 0, .int .u32 0, .int .i64 0, .string ⟨#[]⟩, .slice none 0 0] rfl rfl hth (by kernel_rfl) (by simp [Value.oneCell']) ?_; refine Shut.out ?_)
     refine shut_mk ?_
     go_wp2_with fail
     go_roundw
     case rel => exact ⟨j + 1, by go_num, hN.out⟩
     case measure => simp [intOf]; omega
    ·obtain rfl : j = m := by have := hJ.kn; omega
     have hd2 : decide ((j : Int) < (j : Int)) = false := by simp
     have hOx := hJ.on
     have hT2 := hT.out.keep hOx (fun b hb hm => d1.out.2.2 b hm b (List.mem_append_left _ hb) rfl)
     have hE2 := hE.out.keep hOx (fun b hb hm => d1.out.2.2 b hm b (List.mem_append_right _ hb) rfl)
     have hcT := hih.out.1 ⟨tA, tc⟩ base wx hT2 d2.out.1
     replace hcT := Lib.hid hcT
     replace hE2 := Lib.hid hE2
     replace hOx := Lib.hid hOx
     clear hT2 hJ
     go_wp2_with fail
     refine hcT.out.mono ?_
     rintro e W2 ⟨rfl, _, hO2⟩
     have hE3 := hE2.out.keep hO2 (fun b hb hm => d2.out.2.2 b hm b hb rfl)
     have hcE := hih.out.2 ⟨eA, ec⟩ base W2 hE3 d2.out.2.1
     have hsub : ∀ b, b ∈ (St.mk ⟨yk, yn, yb⟩ ⟨xA, xc⟩ ⟨tA, tc⟩ ⟨eA, ec⟩ yx yt ye).fp ↔ b ∈ Lex.fp ⟨xA, xc⟩ yx ∨ b ∈ Lst.fp ⟨tA, tc⟩ yt ∨ b ∈ Lst.fp ⟨eA, ec⟩ ye := fun b => by
      show b ∈ Lex.fp ⟨xA, xc⟩ yx ++ (Lst.fp ⟨tA, tc⟩ yt ++ Lst.fp ⟨eA, ec⟩ ye) ↔ _
      rw [List.mem_append, List.mem_append]
     have hO02 := (hfx.out _ hOx.out).trans (hO2.more fun b hb _ => (hsub b).2 (.inr (.inl hb)))
     clear q2 q4 q5 hgl
     obtain ⟨q2, q4, q5, hgl⟩ := hcells.out W2 hO02
     replace hcE := Lib.hid hcE
     replace hO02 := Lib.hid hO02
     replace hsub := Lib.hid hsub
     clear hE3 hE2 hOx hO2 hcT
     go_wp2_with fail
     refine hcE.out.mono ?_
     rintro e W3 ⟨rfl, _, hO3⟩
     have hO03 := hO02.out.trans (hO3.more fun b hb _ => (hsub.out b).2 (.inr (.inr hb)))
     obtain ⟨_, hth, hN, _⟩ := hnext.out W3 hO03
     simp only [leafS, St.cells, eT, List.length_nil] at hN
     clear q2 q4 q5 hgl
     obtain ⟨q2, q4, q5, hgl⟩ := hcells.out W3 hO03
     replace hN := Lib.hid hN
     clear hO3 hO03 hcE hO02
     go_wp2_with (refine wpList_store_at 40 (.tmp 51) (.tmp 50) g (k * 6) #[.int .u8 99, .string ⟨#[]⟩, .slice none 0 0, .int .i64 0, .slice none 0 0, .slice none 0 0] rfl rfl hth (by kernel_rfl) (by simp [Value.oneCell']) ?_; refine Shut.out ?_)
     refine shut_mk ?_
     go_wp2_with fail
     go_roundw
     case rel => exact ⟨k + 1, by go_num, hN.out⟩
     case measure => simp [intOf]; omega
  ·obtain rfl : k = n := by have := hI.kn; omega
   have hrow := hI.row
   have hdr : ls.drop k = [] := List.drop_eq_nil_of_le (by have := hn'.out; omega)
   rw [hdr, List.append_nil] at hrow
   have hon := hI.on
   clear hI
   go_wp2_with fail
   go_end0
   refine ⟨rfl, ⟨?_, ?_⟩, hon⟩
   ·rw [List.length_replicate]; exact hrow
   ·exact ownS_iff.2 fun y hy => by rw [(List.mem_replicate.1 hy).2]; exact ⟨⟨World.ownsRow_nil _ _ _ _, trivial⟩, ⟨World.ownsRow_nil _ _ _ _, trivial⟩, ⟨World.ownsRow_nil _ _ _ _, trivial⟩⟩
set_option maxRecDepth 100000 in
theorem overD_ok (l : Loc) (s : List Dc) (base : Nat) (w : World) (ho : Ldc.own w base l s) : Calls Tryz.prog 104 #[.slice l.A s.length l.c] w fun r w' =>
  r = .returned (.tuple #[]) ∧ Ldc.own w' base l (List.replicate s.length overD) ∧ Only l.fp w w' := by
 obtain ⟨A, c⟩ := l
 obtain ⟨n, hn⟩ : ∃ n, n = s.length := ⟨_, rfl⟩
 have hm := own_cap ho
 have ho' : w.ownsRow base 60 3 (.slice A s.length c) s.length (cellsD s) := ho
 rw [← hn] at hm ho'
 show Calls Tryz.prog 104 #[.slice A s.length c] w _
 rw [← hn]
 have n0 : (n : Int) ≤ 9223372036854775807 := by omega
 have hn' := Lib.hid hn
 clear hm hn ho
 go_enter Tryz.func104, Tryz.ntmps104
 go_wp2_with fail
 go_loopw [5] (fun i wr => ∃ k : Nat, i = .int .i64 k ∧ k ≤ n ∧ wr.ownsRow base 60 3 (.slice A n c) n (cellsD (List.replicate k overD ++ s.drop k)) ∧ Only (Loc.mk A c).fp w wr) (fun i _ => n - (intOf i).toNat)
 case atStart => exact ⟨0, rfl, Nat.zero_le _, ho', Only.refl _ _⟩
 case round =>
  clear ho'
  obtain ⟨k, rfl, hk, hrow, hon⟩ := hrel
  have k0 : 0 ≤ (k : Int) := by omega
  by_cases hlt : k < n
  ·have hx : s[k]? = some (s[k]'(by have := hn'.out; omega)) := List.getElem?_eq_getElem (by have := hn'.out; omega)
   generalize s[k]'(by have := hn'.out; omega) = x at hx
   have hdrop : s.drop k = x :: s.drop (k + 1) := by
    obtain ⟨h1, h2⟩ := List.getElem?_eq_some_iff.1 hx
    rw [List.drop_eq_getElem_cons h1, h2]
   rw [hdrop] at hrow
   obtain ⟨g, cap, hv, _, hglt⟩ := hrow.form (by omega)
   injection hv with hv _ hcp
   subst hv
   subst hcp
   have hxs : cellsD (List.replicate k overD ++ x :: s.drop (k + 1)) = cellsD (List.replicate k overD) ++ (x.cells ++ cellsD (s.drop (k + 1))) := by rw [cellsD_append]; rfl
   have hpre : (cellsD (List.replicate k overD)).length = k * 3 := by rw [cellsD_len, List.length_replicate]
   rw [hxs] at hrow
   have hrow3 := own_putN overD.cells x.cells _ _ _ _ hrow hpre rfl
   have hth := own_there hrow hpre
   have hO3 : Only [g] wr (wr.setCells g (k * 3) overD.cells) := only_setCells _ _ _
   have hon3 := hon.trans (hO3.more fun b hb _ => by rw [List.mem_singleton] at hb; rw [hb]; simp [Loc.fp])
   have hrow4 : (wr.setCells g (k * 3) overD.cells).ownsRow base 60 3 (.slice (some ⟨g, 0, none⟩) n c) n (cellsD (List.replicate (k + 1) overD ++ s.drop (k + 1))) := by
    rw [List.replicate_succ', List.append_assoc, cellsD_append]
    exact hrow3
   simp only [overD, Dc.cells] at hrow4 hon3
   have k1 : (k : Int) < (n : Int) := by omega
   replace hrow4 := Lib.hid hrow4
   replace hon3 := Lib.hid hon3
   clear hrow hrow3 hO3 hx hdrop hxs hpre hon
   go_wp2_with (refine wpList_store_at 60 (.tmp 11) (.tmp 10) g (k * 3) #[.string ⟨#[111, 118, 101, 114]⟩, .int .i64 0, .int .i64 0] rfl rfl hth (by kernel_rfl) (by simp [Value.oneCell']) ?_; refine Shut.out ?_)
   refine shut_mk ?_
   go_wp2_with fail
   go_roundw
   case rel => exact ⟨k + 1, by go_num, by omega, hrow4.out, hon3.out⟩
   case measure => simp [intOf]; omega
  ·obtain rfl : k = n := by omega
   have hdr : s.drop k = [] := List.drop_eq_nil_of_le (by have := hn'.out; omega)
   rw [hdr, List.append_nil] at hrow
   go_wp2_with fail
   go_end0
   refine ⟨rfl, ?_, hon⟩
   show World.ownsRow _ _ _ _ (.slice A (List.replicate k overD).length c) (List.replicate k overD).length (cellsD (List.replicate k overD))
   rw [List.length_replicate]; exact hrow
end Go.Proofs.YtnldbplphgfpeaaGreat
