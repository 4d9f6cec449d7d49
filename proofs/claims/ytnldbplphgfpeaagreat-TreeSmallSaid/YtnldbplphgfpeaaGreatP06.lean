/- Lemmas for salvor/salvorlaw29.TreeSmall (part 6); no condition. -/
import Derived.Deep.DeepCutAuto
import Derived.Deep.CutBlock
import Derived.Test.YtnldbplphgfpeaaGreatP05
namespace Go.Proofs.YtnldbplphgfpeaaGreat
open Go Go.RowKit Go.Shelf
set_option linter.unusedVariables false
set_option linter.unusedSimpArgs false
set_option maxHeartbeats 4000000
theorem below_undrew {W W' : World} (h : Below W.drew.heap.size W.drew W') : Below W.heap.size W W' := ⟨h.os, h.tape, h.output, h.size, h.block⟩
def Hd.ren (f : ByteArray → ByteArray) (h : Hd) : Hd := if h.kd = 2 ∨ h.kd = 3 then { h with nm := f h.nm } else h
def SHd.ren (f : ByteArray → ByteArray) (h : SHd) : SHd := if h.kd = 1 ∨ h.kd = 2 then { h with nm := f h.nm } else h
mutual
def Ex.ren {α : Type} (f : ByteArray → ByteArray) : Ex α → Ex Unit
 | .mk h _ s => .mk (h.ren f) () (rens f s)
def rens {α : Type} (f : ByteArray → ByteArray) : List (Ex α) → List (Ex Unit)
 | [] => []
 | x :: r => x.ren f :: rens f r
end
mutual
def St.ren {α : Type} (f : ByteArray → ByteArray) : St α → St Unit
 | .mk h _ _ _ ex th el => .mk (h.ren f) () () () (rens f ex) (renS f th) (renS f el)
def renS {α : Type} (f : ByteArray → ByteArray) : List (St α) → List (St Unit)
 | [] => []
 | x :: r => x.ren f :: renS f r
end
theorem rens_map {α : Type} (f : ByteArray → ByteArray) : ∀ l : List (Ex α), rens f l = l.map (Ex.ren f)
 | [] => rfl
 | x :: r => by simp only [rens, List.map_cons, rens_map f r]
theorem renS_map {α : Type} (f : ByteArray → ByteArray) : ∀ l : List (St α), renS f l = l.map (St.ren f)
 | [] => rfl
 | x :: r => by simp only [renS, List.map_cons, renS_map f r]
def chg (from_ to_ s : ByteArray) : ByteArray := if s.toList == from_.toList then to_ else s
theorem keep_ok (s : ByteArray) (w : World) : Calls Tryz.prog 83 #[.string s] w fun e w' => e = .returned (.string s) ∧ w = w' := by
 go_enter Tryz.func83, Tryz.ntmps83
 go_wp2
 go_ret
 exact ⟨rfl, rfl⟩
theorem change1_ok (Bf Bt : Nat) (from_ to_ s : ByteArray) (w : World) (hf : Blk w Bf 9 #[.string from_]) (ht : Blk w Bt 9 #[.string to_]) :
  Calls Tryz.prog 110 #[.string s, .pointer (some ⟨Bf, 0, none⟩), .pointer (some ⟨Bt, 0, none⟩)] w fun e w' => e = .returned (.string (chg from_ to_ s)) ∧ w = w' := by
 have f0 := hf.cell 0
 have t0 := ht.cell 0
 simp only [List.getElem?_toArray, List.getElem?_cons_zero] at f0 t0
 have fl := hf.lt
 have tl := ht.lt
 unfold chg
 obtain ⟨b, hb⟩ : ∃ b, (s.toList == from_.toList) = b := ⟨_, rfl⟩
 rw [hb]
 cases b
 ·go_enter Tryz.func110, Tryz.ntmps110
  go_wp2
  go_ret
  exact ⟨rfl, rfl⟩
 ·go_enter Tryz.func110, Tryz.ntmps110
  go_wp2
  go_ret
  exact ⟨rfl, rfl⟩
theorem change_ok (from_ to_ : ByteArray) (w : World) :
  Calls Tryz.prog 84 #[.string from_, .string to_] w fun e w' => e = .returned (.func (.func 110) #[] #[.pointer (some ⟨w.heap.size, 0, none⟩), .pointer (some ⟨w.heap.size + 1, 0, none⟩)]) ∧ (w.alloc (.cells #[.string from_] 9)).alloc (.cells #[.string to_] 9) = w' := by
 go_enter Tryz.func84, Tryz.ntmps84
 go_wp2
 go_ret
 exact ⟨rfl, rfl⟩
set_option maxRecDepth 100000 in
theorem named_keep : ∀ (e : Ex Loc) (w : World), e.ok eT w → e.sz ≤ 20000 →
  Calls Tryz.prog 82 #[aggX e, .func (.func 83) #[] #[]] w fun r w' => ∃ L : Ex Loc, r = .returned (aggX L) ∧ L.plain = e.ren id ∧ L.own eT w' w.heap.size ∧ L.fp.Nodup ∧ Below w.heap.size w w' := by
 intro e
 induction e using Ex.ind with
 | h hd lc subs ih =>
 intro w hok hsz
 obtain ⟨xk, xo, xv, xw, xn⟩ := hd
 obtain ⟨xA, xc⟩ := lc
 have hlen := szs_len subs
 simp only [Ex.sz] at hsz
 obtain ⟨n, hn⟩ : ∃ n, n = subs.length := ⟨_, rfl⟩
 rw [← hn] at hlen
 have hn2 : n ≤ 20000 := by omega
 obtain ⟨h', hh'⟩ : ∃ h', h' = (Hd.mk xk xo xv xw xn).ren id := ⟨_, rfl⟩
 obtain ⟨nm', hnm'⟩ : ∃ nm', nm' = h'.nm := ⟨_, rfl⟩
 simp only [aggX, Ex.cells, eT]
 rw [← hn]
 have hn' := Lib.hid hn
 clear hn
 replace hsz := Lib.hid hsz
 replace hlen := Lib.hid hlen
 replace hh' := Lib.hid hh'
 replace hnm' := Lib.hid hnm'
 replace ih := Lib.hid ih
 go_enter Tryz.func82, Tryz.ntmps82
 go_upto_region 1 with (fail)
 have hb0 := (Blk.new w 30 #[.int .u8 xk, .int .u8 xo, .int .u32 xv, .int .i64 xw, .string xn, .slice xA n xc]).alloc (.cells #[.int .u8 0, .int .u8 0, .int .u32 0, .int .i64 0, .string ⟨#[]⟩, .slice none 0 0] 30)
 have hr0 := Blk.new (w.alloc (.cells #[.int .u8 xk, .int .u8 xo, .int .u32 xv, .int .i64 xw, .string xn, .slice xA n xc] 30)) 30 #[.int .u8 0, .int .u8 0, .int .u32 0, .int .i64 0, .string ⟨#[]⟩, .slice none 0 0]
 rw [World.size_alloc] at hr0
 have hB0 : Below w.heap.size w ((w.alloc (.cells #[.int .u8 xk, .int .u8 xo, .int .u32 xv, .int .i64 xw, .string xn, .slice xA n xc] 30)).alloc (.cells #[.int .u8 0, .int .u8 0, .int .u32 0, .int .i64 0, .string ⟨#[]⟩, .slice none 0 0] 30)) := ((Below.refl _ _).alloc (Nat.le_refl _) _).alloc (by simp) _
 generalize (w.alloc (.cells #[.int .u8 xk, .int .u8 xo, .int .u32 xv, .int .i64 xw, .string xn, .slice xA n xc] 30)).alloc (.cells #[.int .u8 0, .int .u8 0, .int .u32 0, .int .i64 0, .string ⟨#[]⟩, .slice none 0 0] 30) = W0 at *
 have hbl := hb0.lt
 have hrl := hr0.lt
 have c0 := hb0.cell 0
 have c4 := hb0.cell 4
 have f4 := hb0.frozen 4
 simp only [List.getElem?_toArray, List.getElem?_cons_zero, List.getElem?_cons_succ] at c0 c4
 obtain ⟨bb, hbb⟩ : ∃ bb : Bool, bb = decide (xk = 2 ∨ xk = 3) := ⟨_, rfl⟩
 replace hbb := Lib.hid hbb
 go_cut [14] (fun b14 wx => b14 = .bool bb ∧ wx = W0)
 case first =>
  by_cases h2 : xk = 2
  ·have e : (xk == 2) = true := by simp [h2]
   have hbt : bb = true := by rw [hbb.out]; simp [h2]
   subst hbt
   clear h2
   go_wp2
   go_meet
   exact ⟨rfl, rfl⟩
  ·have e : (xk == 2) = false := by simp [h2]
   by_cases h3 : xk = 3
   ·have e3 : (xk == 3) = true := by simp [h3]
    have hbt : bb = true := by rw [hbb.out]; simp [h3]
    subst hbt
    clear h2 h3
    go_wp2
    go_meet
    exact ⟨rfl, rfl⟩
   ·have e3 : (xk == 3) = false := by simp [h3]
    have hbt : bb = false := by rw [hbb.out]; simp [h2, h3]
    subst hbt
    clear h2 h3
    go_wp2
    go_meet
    exact ⟨rfl, rfl⟩
 case rest =>
  obtain ⟨rfl, hwc⟩ := hcut
  subst hwc
  go_upto_if 14 with (fail)
  go_cut [] (fun wx => Blk wx w.heap.size 30 #[.int .u8 xk, .int .u8 xo, .int .u32 xv, .int .i64 xw, .string nm', .slice xA n xc] ∧ Blk wx (w.heap.size + 1) 30 #[.int .u8 0, .int .u8 0, .int .u32 0, .int .i64 0, .string ⟨#[]⟩, .slice none 0 0] ∧ Below w.heap.size w wx)
  case first =>
   have hfin := hb0.set_ 4 (.string nm')
   simp only [List.setIfInBounds_toArray, List.set_cons_zero, List.set_cons_succ] at hfin
   have hfr := hr0.far (p := ⟨w.heap.size, 4, none⟩) (by simp) (.string nm')
   have hfB : Below w.heap.size w (wc.setCell ⟨w.heap.size, 4, none⟩ (.string nm')) := hB0.setCell (Nat.le_refl _) _
   cases bb
   ·have hnm : nm' = xn := by
     rw [hnm'.out, hh'.out]; unfold Hd.ren; rw [if_neg (by simpa using hbb.out.symm)]
    subst hnm
    go_wp2
    go_meet
    exact ⟨hb0, hr0, hB0⟩
   ·have hnm : id xn = nm' := by
     rw [hnm'.out, hh'.out]; unfold Hd.ren; rw [if_pos (by simpa using hbb.out.symm)]
    replace hnm := Lib.hid hnm
    go_wp2_with (go_at_call 83; refine (keep_ok _ _).mono ?_; rintro e w' ⟨rfl, rfl⟩)
    go_meet
    have hnm2 : xn = nm' := hnm.out
    subst hnm2
    exact ⟨hfin, hfr, hfB⟩
  case rest =>
   obtain ⟨hb1, hr1, hB1⟩ := hcut
   clear c0 c4 f4 hb0 hr0 hB0 hbl hrl
   have hrow : Lex.ok eT wc ⟨xA, xc⟩ subs := Lex.ok.all (keeps_below hB1) hok
   have hcl := cloneExpr ⟨xA, xc⟩ n (cellsL eT subs) wc (by rw [hn'.out]; exact hrow.1) (cellsL_one _ _) (by omega)
   replace hcl := Lib.hid hcl
   have c5 := hb1.cell 5
   simp only [List.getElem?_toArray, List.getElem?_cons_zero, List.getElem?_cons_succ] at c5
   have hbl := hb1.lt
   go_wp2_with (go_at_call 109; refine hcl.out.mono ?_; rintro e w2 ⟨⟨lA, lcap⟩, rfl, hown, hB2⟩; have hb2 := hb1.below hB2 hbl; have d5 := hb2.cell 5; have f5 := hb2.frozen 5; simp only [List.getElem?_toArray, List.getElem?_cons_zero, List.getElem?_cons_succ] at d5; have hbl2 := hb2.lt)
   have hr3 := (hr1.below hB2 hr1.lt).far (p := ⟨w.heap.size, 5, none⟩) (by simp) (.slice lA n lcap)
   have hb3 := hb2.set_ 5 (.slice lA n lcap)
   simp only [List.setIfInBounds_toArray, List.set_cons_zero, List.set_cons_succ] at hb3
   have hB3 : Below w.heap.size w (w2.setCell ⟨w.heap.size, 5, none⟩ (.slice lA n lcap)) := (below_and hB1 hB2).setCell (Nat.le_refl _) _
   have hgt : ∀ b ∈ (Loc.mk lA lcap).fp, w.heap.size + 1 < b := fun b hb => by
    have h1 := (own_ge (l := ⟨lA, lcap⟩) hown b hb).1
    have h2 := hr1.lt
    omega
   have hown3 : (w2.setCell ⟨w.heap.size, 5, none⟩ (.slice lA n lcap)).ownsRow w.heap.size 30 6 (.slice lA n lcap) n (cellsL eT subs) := by
    refine own_base (own_only hown (fp := [w.heap.size]) ((Only.refl _ _).setCell (.inl (by simp)) _) fun k hk hm => ?_) hB1.size
    have := hgt k ((own_fp ⟨lA, lcap⟩ n k).2 hk)
    simp at hm
    omega
   generalize w2.setCell ⟨w.heap.size, 5, none⟩ (.slice lA n lcap) = W3 at *
   clear hb1 hr1 hB1 hrow hcl c5 hbl hb2 hown hB2
   clear wc
   replace hgt := Lib.hid hgt
   go_loopw [27] (fun i wr => ∃ (k : Nat) (news : List (Ex Loc)), i = .int .i64 k ∧ k ≤ n ∧ news.length = k ∧ plains news = rens id (subs.take k) ∧ wr.ownsRow w.heap.size 30 6 (.slice lA n lcap) n (cellsL eT (news ++ subs.drop k)) ∧ owns eT wr w.heap.size news ∧ ((Loc.mk lA lcap).fp ++ fps news).Nodup ∧
    (∀ b ∈ fps news, w.heap.size + 1 < b) ∧ Below w.heap.size w wr ∧ Blk wr w.heap.size 30 #[.int .u8 xk, .int .u8 xo, .int .u32 xv, .int .i64 xw, .string nm', .slice lA n lcap] ∧ Blk wr (w.heap.size + 1) 30 #[.int .u8 0, .int .u8 0, .int .u32 0, .int .i64 0, .string ⟨#[]⟩, .slice none 0 0]) (fun i _ => n - (intOf i).toNat)
   case atStart =>
    refine ⟨0, [], rfl, Nat.zero_le _, rfl, rfl, by simpa using hown3, trivial, ?_, by simp [fps], hB3, hb3, hr3⟩
    simp only [fps, List.append_nil]
    unfold Loc.fp
    cases lA <;> simp
   case round =>
    clear hr3 hb3 hB3 hown3
    obtain ⟨k, news, rfl, hk, hnl, hpl, hown, howns, hnd, hnb, hB, hb, hr⟩ := hrel
    have k0 : 0 ≤ (k : Int) := by omega
    have c5 := hb.cell 5
    simp only [List.getElem?_toArray, List.getElem?_cons_zero, List.getElem?_cons_succ] at c5
    have hbl := hb.lt
    by_cases hlt : k < n
    ·have hx : subs[k]? = some (subs[k]'(by have := hn'.out; omega)) := List.getElem?_eq_getElem (by have := hn'.out; omega)
     generalize subs[k]'(by have := hn'.out; omega) = x at hx
     have hdrop : subs.drop k = x :: subs.drop (k + 1) := by
      obtain ⟨h1, h2⟩ := List.getElem?_eq_some_iff.1 hx
      rw [List.drop_eq_getElem_cons h1, h2]
     rw [hdrop] at hown
     obtain ⟨g, cap, hv, _, hglt⟩ := hown.form (by omega)
     injection hv with hv _ hcp
     subst hv
     subst hcp
     have hxok := oks_at (hok.2) hx
     have hih := (ih.out x (List.mem_of_getElem? hx))
     have hxsz := szs_mem (List.mem_of_getElem? hx)
     have htk : rens id (subs.take (k + 1)) = rens id (subs.take k) ++ [x.ren id] := by
      obtain ⟨h1, h2⟩ := List.getElem?_eq_some_iff.1 hx
      rw [rens_map, rens_map, List.take_succ_eq_append_getElem h1, h2, List.map_append]; rfl
     obtain ⟨⟨yk, yo, yv, yw, yn⟩, ⟨yA, yc⟩, ys⟩ := x
     have hpre : (cellsL eT news).length = k * 6 := by rw [cellsL_len, hnl]
     have hxs : cellsL eT (news ++ Ex.mk ⟨yk, yo, yv, yw, yn⟩ ⟨yA, yc⟩ ys :: subs.drop (k + 1)) = cellsL eT news ++ .int .u8 yk :: .int .u8 yo :: .int .u32 yv :: .int .i64 yw :: .string yn :: .slice yA ys.length yc :: cellsL eT (subs.drop (k + 1)) := by rw [cellsL_append]; rfl
     rw [hxs] at hown
     obtain ⟨⟨r0, r1, r2, r3, r4, r5⟩, _, _⟩ := own_six hown hpre
     have hcall : ∀ w2, Below w.heap.size w w2 → Calls Tryz.prog 82 #[.agg #[.int .u8 yk, .int .u8 yo, .int .u32 yv, .int .i64 yw, .string yn, .slice yA ys.length yc], .func (.func 83) #[] #[]] w2 fun r w' =>
       ∃ zk zo zv zw zn zA zc zs, r = .returned (.agg #[.int .u8 zk, .int .u8 zo, .int .u32 zv, .int .i64 zw, .string zn, .slice zA (zs : List (Ex Loc)).length zc]) ∧ (Ex.mk ⟨zk, zo, zv, zw, zn⟩ (⟨zA, zc⟩ : Loc) zs).plain = Ex.ren id (Ex.mk ⟨yk, yo, yv, yw, yn⟩ (⟨yA, yc⟩ : Loc) ys) ∧ (Ex.mk ⟨zk, zo, zv, zw, zn⟩ ⟨zA, zc⟩ zs).own eT w' w2.heap.size ∧ (Ex.mk ⟨zk, zo, zv, zw, zn⟩ ⟨zA, zc⟩ zs).fp.Nodup ∧ Below w2.heap.size w2 w' := fun w2 h2 =>
      (hih w2 (hxok.below h2) (by have := hsz.out; omega)).mono fun r w' ⟨L, h1, h2, h3, h4, h5⟩ => by
       obtain ⟨⟨zk, zo, zv, zw, zn⟩, ⟨zA, zc⟩, zs⟩ := L
       exact ⟨zk, zo, zv, zw, zn, zA, zc, zs, h1, h2, h3, h4, h5⟩
     have hx' := Lib.hid hx
     have htk' := Lib.hid htk
     have hnl' := Lib.hid hnl
     have hpl' := Lib.hid hpl
     have hpre' := Lib.hid hpre
     replace hcall := Lib.hid hcall
     clear hx hdrop htk hnl hpl hpre hih hxsz hxok hxs
     have k1 : (k : Int) < (n : Int) := by omega
     have hBx := (Below.refl _ wr).alloc (Nat.le_refl _) (.cells #[.int .u8 yk, .int .u8 yo, .int .u32 yv, .int .i64 yw, .string yn, .slice yA ys.length yc] 30)
     have hbx := Blk.new wr 30 #[.int .u8 yk, .int .u8 yo, .int .u32 yv, .int .i64 yw, .string yn, .slice yA ys.length yc]
     go_wp2
     have hby := hb.below hBx hbl
     generalize wr.alloc (.cells #[.int .u8 yk, .int .u8 yo, .int .u32 yv, .int .i64 yw, .string yn, .slice yA ys.length yc] 30) = W4 at *
     have hBw4 : Below w.heap.size w W4 := below_and hB hBx
     have hown4 := own_only hown (only_of_below [] hBx) (by simp)
     have howns4 : owns eT W4 w.heap.size news := owns_keep (only_of_below [] hBx) howns (by simp)
     have hr4 := hr.below hBx hr.lt
     have hglt4 : g < W4.heap.size := Nat.lt_of_lt_of_le hglt hBx.size
     have hwl : w.heap.size < W4.heap.size := hby.lt
     have hxl : wr.heap.size < W4.heap.size := hbx.lt
     clear c5 r0 r1 r2 r3 r4 r5 hown howns hr
     obtain ⟨bx, hbxe⟩ : ∃ bx, wr.heap.size = bx := ⟨_, rfl⟩
     rw [hbxe] at hbx hxl ⊢
     replace hbxe := Lib.hid hbxe
     obtain ⟨S, hSi, hSe⟩ : ∃ S : World → Prop, (∀ W, (W.cell? ⟨w.heap.size, 5, none⟩ = some (.slice (some ⟨g, 0, none⟩) n lcap) ∧ W.cell? ⟨bx, 0, none⟩ = some (.int .u8 yk) ∧ W.cell? ⟨bx, 1, none⟩ = some (.int .u8 yo) ∧ W.cell? ⟨bx, 2, none⟩ = some (.int .u32 yv) ∧ W.cell? ⟨bx, 3, none⟩ = some (.int .i64 yw) ∧ W.cell? ⟨bx, 4, none⟩ = some (.string yn) ∧ W.cell? ⟨bx, 5, none⟩ = some (.slice yA ys.length yc)) → S W) ∧ (∀ W, S W → (W.cell? ⟨w.heap.size, 5, none⟩ = some (.slice (some ⟨g, 0, none⟩) n lcap) ∧ W.cell? ⟨bx, 0, none⟩ = some (.int .u8 yk) ∧ W.cell? ⟨bx, 1, none⟩ = some (.int .u8 yo) ∧ W.cell? ⟨bx, 2, none⟩ = some (.int .u32 yv) ∧ W.cell? ⟨bx, 3, none⟩ = some (.int .i64 yw) ∧ W.cell? ⟨bx, 4, none⟩ = some (.string yn) ∧ W.cell? ⟨bx, 5, none⟩ = some (.slice yA ys.length yc))) := ⟨fun W => W.cell? ⟨w.heap.size, 5, none⟩ = some (.slice (some ⟨g, 0, none⟩) n lcap) ∧ W.cell? ⟨bx, 0, none⟩ = some (.int .u8 yk) ∧ W.cell? ⟨bx, 1, none⟩ = some (.int .u8 yo) ∧ W.cell? ⟨bx, 2, none⟩ = some (.int .u32 yv) ∧ W.cell? ⟨bx, 3, none⟩ = some (.int .i64 yw) ∧ W.cell? ⟨bx, 4, none⟩ = some (.string yn) ∧ W.cell? ⟨bx, 5, none⟩ = some (.slice yA ys.length yc), fun _ h => h, fun _ h => h⟩
     have hS : S W4.drew := hSi _ ⟨hby.cell 5, hbx.cell 0, hbx.cell 1, hbx.cell 2, hbx.cell 3, hbx.cell 4, hbx.cell 5⟩
     replace hSi := Lib.hid hSi
     replace hSe := Lib.hid hSe
     refine wp_region_held (S := S) (by kernel_rfl) ?_
     change wpAnyH _ _ _ _ _ _ _ _ (World.drew _)
     refine takeH 0 (v := ?_) rfl (by kernel_rfl) (by kernel_rfl) (by kernel_rfl) (fun _ _ _ h => h) (by rfl) hS ?_ ?_
     rotate_left
     ·(intro wz hSw; obtain ⟨z0, z1, z2, z3, z4, z5, z6⟩ := hSe.out _ hSw; go_simp; try with_reducible rfl)
     try simp only [Act.put, List.setIfInBounds_toArray, List.set_cons_zero, List.set_cons_succ]
     refine takeH 1 (v := .slice (some ⟨g, 0, none⟩) n lcap) rfl (by kernel_rfl) (by kernel_rfl) (by kernel_rfl) (fun _ _ _ h => h) (by rfl) hS ?_ ?_
     ·(intro wz hSw; obtain ⟨z0, z1, z2, z3, z4, z5, z6⟩ := hSe.out _ hSw; go_simp)
     try simp only [Act.put, List.setIfInBounds_toArray, List.set_cons_zero, List.set_cons_succ]
     refine takeH 2 (v := ?_) rfl (by kernel_rfl) (by kernel_rfl) (by kernel_rfl) (fun _ _ _ h => h) (by rfl) hS ?_ ?_
     rotate_left
     ·(intro wz hSw; obtain ⟨z0, z1, z2, z3, z4, z5, z6⟩ := hSe.out _ hSw; go_simp; try with_reducible rfl)
     try simp only [Act.put, List.setIfInBounds_toArray, List.set_cons_zero, List.set_cons_succ]
     refine takeH 3 (v := .agg #[.int .u8 yk, .int .u8 yo, .int .u32 yv, .int .i64 yw, .string yn, .slice yA ys.length yc]) rfl (by kernel_rfl) (by kernel_rfl) (by kernel_rfl) (fun _ _ _ h => h) (by rfl) hS ?_ ?_
     ·(intro wz hSw; obtain ⟨z0, z1, z2, z3, z4, z5, z6⟩ := hSe.out _ hSw; go_simp)
     try simp only [Act.put, List.setIfInBounds_toArray, List.set_cons_zero, List.set_cons_succ]
     refine takeH 4 (v := ?_) rfl (by kernel_rfl) (by kernel_rfl) (by kernel_rfl) (fun _ _ _ h => h) (by rfl) hS ?_ ?_
     rotate_left
     ·(intro wz hSw; obtain ⟨z0, z1, z2, z3, z4, z5, z6⟩ := hSe.out _ hSw; go_simp; try with_reducible rfl)
     try simp only [Act.put, List.setIfInBounds_toArray, List.set_cons_zero, List.set_cons_succ]
     refine callH 5 rfl (by kernel_rfl) (fun K hK => ?_)
     go_simp
     go_wp2_with (go_at_call 82; refine (hcall.out W4.drew hBw4.drew).mono ?_; rintro e w5 ⟨zk, zo, zv, zw, zn, zA, zc, zs, rfl, hLp, hLo, hLn, hB5'⟩)
     have hB5 := below_undrew hB5'
     have hby5 := hby.below hB5 hwl
     have hbx5 := hbx.below hB5 hxl
     have hown5 := own_only hown4 (only_of_below [] hB5) (by simp)
     have hth := there_six hown5 hpre'.out
     refine hK.out _ _ (hSi.out _ ⟨hby5.cell 5, hbx5.cell 0, hbx5.cell 1, hbx5.cell 2, hbx5.cell 3, hbx5.cell 4, hbx5.cell 5⟩) (fun hSn => ?_)
     clear hK K hS
     have hS := hSn
     clear hSn
     refine takeH 6 (v := .pointer (some ⟨g, k * 6, none⟩)) rfl (by kernel_rfl) (by kernel_rfl) (by kernel_rfl) (fun _ _ _ h => h) (by rfl) hS ?_ ?_
     ·(intro wz hSw; obtain ⟨z0, z1, z2, z3, z4, z5, z6⟩ := hSe.out _ hSw; go_simp)
     try simp only [Act.put, List.setIfInBounds_toArray, List.set_cons_zero, List.set_cons_succ]
     have hgo : Only [g] w5 ((((((w5.setCell ⟨g, k * 6, none⟩ (.int .u8 zk)).setCell ⟨g, k * 6 + 1, none⟩ (.int .u8 zo)).setCell ⟨g, k * 6 + 2, none⟩ (.int .u32 zv)).setCell ⟨g, k * 6 + 3, none⟩ (.int .i64 zw)).setCell ⟨g, k * 6 + 4, none⟩ (.string zn)).setCell ⟨g, k * 6 + 5, none⟩ (.slice zA zs.length zc)) := Only.six (Only.refl _ _) (.inl (by simp)) _ _ _ _ _ _
     have hown6 := own_put6 hown5 hpre'.out (.int .u8 zk) (.int .u8 zo) (.int .u32 zv) (.int .i64 zw) (.string zn) (.slice zA zs.length zc)
     have hgw : w.heap.size + 1 < g := hgt.out g (by simp [Loc.fp])
     have hgx : g < bx := by have := hbxe.out; omega
     have hby6 := hby5.only hgo (by simp; omega)
     have hbx6 := hbx5.only hgo (by simp; omega)
     refine callH 7 rfl (by kernel_rfl) (fun K hK => ?_)
     rw [if_pos (by rfl)]
     refine wp_store_six 30 (.tmp 38) (.tmp 37) rfl g (k * 6) (.int .u8 zk) (.int .u8 zo) (.int .u32 zv) (.int .i64 zw) (.string zn) (.slice zA zs.length zc) rfl rfl hth (by kernel_rfl) (by simp [Value.oneCell']) ?_
     refine hK.out _ _ (hSi.out _ ⟨hby6.cell 5, hbx6.cell 0, hbx6.cell 1, hbx6.cell 2, hbx6.cell 3, hbx6.cell 4, hbx6.cell 5⟩) (fun hSn => ?_)
     clear hK K hS
     have hS := hSn
     clear hSn
     refine wpAnyH_done (by kernel_rfl) ?_ _
     generalize ((((((w5.setCell ⟨g, k * 6, none⟩ (.int .u8 zk)).setCell ⟨g, k * 6 + 1, none⟩ (.int .u8 zo)).setCell ⟨g, k * 6 + 2, none⟩ (.int .u32 zv)).setCell ⟨g, k * 6 + 3, none⟩ (.int .i64 zw)).setCell ⟨g, k * 6 + 4, none⟩ (.string zn)).setCell ⟨g, k * 6 + 5, none⟩ (.slice zA zs.length zc)) = w6 at *
     clear hS hSi hSe
     clear S
     have hLge := hLo.ge
     have hL6 : (Ex.mk ⟨zk, zo, zv, zw, zn⟩ ⟨zA, zc⟩ zs).own eT w6 w.heap.size := by
      refine (hLo.keep hgo fun q hq hm => ?_).base_le (Nat.le_trans hBw4.size (Nat.le_refl _))
      have h1 := (hLge q hq).1
      simp only [List.mem_singleton] at hm
      subst hm
      have : q < W4.heap.size := hglt4
      exact absurd h1 (Nat.not_le.2 this)
     have hns6 : owns eT w6 w.heap.size news := owns_keep hgo (owns_keep (only_of_below [] hB5) howns4 (by simp)) fun q hq hm => by
      simp only [List.mem_singleton] at hm
      subst hm
      exact (List.nodup_append.1 hnd).2.2 q (by simp [Loc.fp]) q hq rfl
     have hB6 : Below w.heap.size w w6 := (below_and hBw4 hB5).trans (hgo.below (by have := hB5.size; omega) (by simp; omega))
     have hr6 := (hr4.below hB5 hr4.lt).only hgo (by simp; omega)
     have hnsge := owns_ge howns4
     replace hLge := Lib.hid hLge
     replace hgt := Lib.hid hgt
     replace hnb := Lib.hid hnb
     replace hnsge := Lib.hid hnsge
     clear hgo
     go_wp2_with fail
     go_roundw
     case rel =>
      refine ⟨k + 1, news ++ [Ex.mk ⟨zk, zo, zv, zw, zn⟩ ⟨zA, zc⟩ zs], by go_num, by omega, by rw [List.length_append, hnl'.out]; rfl, ?_, ?_, ?_, ?_, ?_, hB6, hby6, hr6⟩
      ·have h1 := hpl'.out
       have h2 := htk'.out
       rw [plains_map] at h1 ⊢
       rw [h2, List.map_append, h1, List.map_cons, List.map_nil, hLp]
      ·rw [List.append_assoc, cellsL_append]
       exact hown6
      ·exact owns_iff.2 fun y hy => by
        rcases List.mem_append.1 hy with hy | hy
        ·exact owns_iff.1 hns6 y hy
        ·rw [List.mem_singleton] at hy; rw [hy]; exact hL6
      ·rw [fps_append, ← List.append_assoc]
       refine List.nodup_append.2 ⟨hnd, by simpa [fps] using hLn, fun b hb c hc hbc => ?_⟩
       subst hbc
       have h1 : W4.heap.size ≤ b := (hLge.out b (by simpa [fps] using hc)).1
       rcases List.mem_append.1 hb with hb | hb
       ·simp [Loc.fp] at hb
        omega
       ·have := (hnsge.out b hb).2
        omega
      ·intro b hb
       rw [fps_append] at hb
       rcases List.mem_append.1 hb with hb | hb
       ·exact hnb.out b hb
       ·have h1 : W4.heap.size ≤ b := (hLge.out b (by simpa [fps] using hb)).1
        omega
     case measure => simp [intOf]; omega
    ·obtain rfl : k = n := by omega
     have hdr : subs.drop k = [] := List.drop_eq_nil_of_le (by have := hn'.out; omega)
     have htk : subs.take k = subs := List.take_of_length_le (by have := hn'.out; omega)
     rw [hdr, List.append_nil] at hown
     rw [htk] at hpl
     have hL : (Ex.mk ⟨xk, xo, xv, xw, nm'⟩ ⟨lA, lcap⟩ news).plain = (Ex.mk ⟨xk, xo, xv, xw, xn⟩ (⟨xA, xc⟩ : Loc) subs).ren id := by
      have e1 : (Hd.mk xk xo xv xw nm') = (Hd.mk xk xo xv xw xn).ren id := by
       rw [hnm'.out, hh'.out]; unfold Hd.ren; split <;> rfl
      simp only [Ex.plain, Ex.ren, hpl, e1]
     have q0 := hb.cell 0
     have q1 := hb.cell 1
     have q2 := hb.cell 2
     have q3 := hb.cell 3
     have q4 := hb.cell 4
     simp only [List.getElem?_toArray, List.getElem?_cons_zero, List.getElem?_cons_succ] at q0 q1 q2 q3 q4
     have hrl := hr.lt
     have z0 := hr.cell 0
     have z1 := hr.cell 1
     have z2 := hr.cell 2
     have z3 := hr.cell 3
     have z4 := hr.cell 4
     have z5 := hr.cell 5
     have zf := fun j => hr.frozen j
     simp only [List.getElem?_toArray, List.getElem?_cons_zero, List.getElem?_cons_succ] at z0 z1 z2 z3 z4 z5
     replace hnl := Lib.hid hnl
     replace hpl := Lib.hid hpl
     replace hL := Lib.hid hL
     replace hdr := Lib.hid hdr
     replace htk := Lib.hid htk
     have hgt' := hgt
     go_wp2_with fail
     have hbf := (((((hr.set_ 0 (.int .u8 xk)).set_ 1 (.int .u8 xo)).set_ 2 (.int .u32 xv)).set_ 3 (.int .i64 xw)).set_ 4 (.string nm')).set_ 5 (.slice lA k lcap)
     simp only [List.setIfInBounds_toArray, List.set_cons_zero, List.set_cons_succ] at hbf
     have hof : Only [w.heap.size + 1] wr ((((((wr.setCell ⟨w.heap.size + 1, 0, none⟩ (.int .u8 xk)).setCell ⟨w.heap.size + 1, 1, none⟩ (.int .u8 xo)).setCell ⟨w.heap.size + 1, 2, none⟩ (.int .u32 xv)).setCell ⟨w.heap.size + 1, 3, none⟩ (.int .i64 xw)).setCell ⟨w.heap.size + 1, 4, none⟩ (.string nm')).setCell ⟨w.heap.size + 1, 5, none⟩ (.slice lA k lcap)) :=
      ((((((Only.refl _ _).setCell (.inl (by simp)) _).setCell (.inl (by simp)) _).setCell (.inl (by simp)) _).setCell (.inl (by simp)) _).setCell (.inl (by simp)) _).setCell (.inl (by simp)) _
     refine bodyPost_ret (results_cell_row rfl _ _ (w.heap.size + 1) 30 _ (0, 0) _ rfl hbf Tryz.underlying30 rfl (by kernel_rfl)) rfl ?_
     have hnk : news.length = k := hnl.out
     refine ⟨Ex.mk ⟨xk, xo, xv, xw, nm'⟩ ⟨lA, lcap⟩ news, by show _ = Ending.returned (.agg #[.int .u8 xk, .int .u8 xo, .int .u32 xv, .int .i64 xw, .string nm', .slice lA news.length lcap]); rw [hnk], hL.out, ⟨?_, ?_⟩, hnd, hB.trans (hof.below (Nat.le_of_lt (Nat.lt_of_succ_lt hrl)) (by simp))⟩
     ·show World.ownsRow _ _ 30 6 (.slice lA news.length lcap) news.length (cellsL eT news)
      rw [hnk]
      refine own_only hown hof fun q hq hm => ?_
      have h1 := hgt.out q ((own_fp ⟨lA, lcap⟩ k q).2 hq)
      simp at hm
      omega
     ·exact owns_keep hof howns fun q hq hm => by
       have h1 := hnb q hq
       simp at hm
       omega
set_option maxRecDepth 100000 in
theorem named_chg (Bf Bt : Nat) (from_ to_ : ByteArray) : ∀ (e : Ex Loc) (w : World), e.ok eT w → e.sz ≤ 20000 → Blk w Bf 9 #[.string from_] → Blk w Bt 9 #[.string to_] →
  Calls Tryz.prog 82 #[aggX e, .func (.func 110) #[] #[.pointer (some ⟨Bf, 0, none⟩), .pointer (some ⟨Bt, 0, none⟩)]] w fun r w' => ∃ L : Ex Loc, r = .returned (aggX L) ∧ L.plain = e.ren (chg from_ to_) ∧ L.own eT w' w.heap.size ∧ L.fp.Nodup ∧ Below w.heap.size w w' := by
 intro e
 induction e using Ex.ind with
 | h hd lc subs ih =>
 intro w hok hsz hbf hbt
 obtain ⟨xk, xo, xv, xw, xn⟩ := hd
 obtain ⟨xA, xc⟩ := lc
 have hlen := szs_len subs
 simp only [Ex.sz] at hsz
 obtain ⟨n, hn⟩ : ∃ n, n = subs.length := ⟨_, rfl⟩
 rw [← hn] at hlen
 have hn2 : n ≤ 20000 := by omega
 obtain ⟨h', hh'⟩ : ∃ h', h' = (Hd.mk xk xo xv xw xn).ren (chg from_ to_) := ⟨_, rfl⟩
 obtain ⟨nm', hnm'⟩ : ∃ nm', nm' = h'.nm := ⟨_, rfl⟩
 simp only [aggX, Ex.cells, eT]
 rw [← hn]
 have hn' := Lib.hid hn
 clear hn
 replace hsz := Lib.hid hsz
 replace hlen := Lib.hid hlen
 replace hh' := Lib.hid hh'
 replace hnm' := Lib.hid hnm'
 replace ih := Lib.hid ih
 go_enter Tryz.func82, Tryz.ntmps82
 go_upto_region 1 with (fail)
 have hb0 := (Blk.new w 30 #[.int .u8 xk, .int .u8 xo, .int .u32 xv, .int .i64 xw, .string xn, .slice xA n xc]).alloc (.cells #[.int .u8 0, .int .u8 0, .int .u32 0, .int .i64 0, .string ⟨#[]⟩, .slice none 0 0] 30)
 have hr0 := Blk.new (w.alloc (.cells #[.int .u8 xk, .int .u8 xo, .int .u32 xv, .int .i64 xw, .string xn, .slice xA n xc] 30)) 30 #[.int .u8 0, .int .u8 0, .int .u32 0, .int .i64 0, .string ⟨#[]⟩, .slice none 0 0]
 rw [World.size_alloc] at hr0
 have hB0 : Below w.heap.size w ((w.alloc (.cells #[.int .u8 xk, .int .u8 xo, .int .u32 xv, .int .i64 xw, .string xn, .slice xA n xc] 30)).alloc (.cells #[.int .u8 0, .int .u8 0, .int .u32 0, .int .i64 0, .string ⟨#[]⟩, .slice none 0 0] 30)) := ((Below.refl _ _).alloc (Nat.le_refl _) _).alloc (by simp) _
 generalize (w.alloc (.cells #[.int .u8 xk, .int .u8 xo, .int .u32 xv, .int .i64 xw, .string xn, .slice xA n xc] 30)).alloc (.cells #[.int .u8 0, .int .u8 0, .int .u32 0, .int .i64 0, .string ⟨#[]⟩, .slice none 0 0] 30) = W0 at *
 have hbl := hb0.lt
 have hrl := hr0.lt
 have c0 := hb0.cell 0
 have c4 := hb0.cell 4
 have f4 := hb0.frozen 4
 simp only [List.getElem?_toArray, List.getElem?_cons_zero, List.getElem?_cons_succ] at c0 c4
 obtain ⟨bb, hbb⟩ : ∃ bb : Bool, bb = decide (xk = 2 ∨ xk = 3) := ⟨_, rfl⟩
 replace hbb := Lib.hid hbb
 go_cut [14] (fun b14 wx => b14 = .bool bb ∧ wx = W0)
 case first =>
  by_cases h2 : xk = 2
  ·have e : (xk == 2) = true := by simp [h2]
   have hbt : bb = true := by rw [hbb.out]; simp [h2]
   subst hbt
   clear h2
   go_wp2
   go_meet
   exact ⟨rfl, rfl⟩
  ·have e : (xk == 2) = false := by simp [h2]
   by_cases h3 : xk = 3
   ·have e3 : (xk == 3) = true := by simp [h3]
    have hbt : bb = true := by rw [hbb.out]; simp [h3]
    subst hbt
    clear h2 h3
    go_wp2
    go_meet
    exact ⟨rfl, rfl⟩
   ·have e3 : (xk == 3) = false := by simp [h3]
    have hbt : bb = false := by rw [hbb.out]; simp [h2, h3]
    subst hbt
    clear h2 h3
    go_wp2
    go_meet
    exact ⟨rfl, rfl⟩
 case rest =>
  obtain ⟨rfl, hwc⟩ := hcut
  subst hwc
  go_upto_if 14 with (fail)
  go_cut [] (fun wx => Blk wx w.heap.size 30 #[.int .u8 xk, .int .u8 xo, .int .u32 xv, .int .i64 xw, .string nm', .slice xA n xc] ∧ Blk wx (w.heap.size + 1) 30 #[.int .u8 0, .int .u8 0, .int .u32 0, .int .i64 0, .string ⟨#[]⟩, .slice none 0 0] ∧ Below w.heap.size w wx)
  case first =>
   have hfin := hb0.set_ 4 (.string nm')
   simp only [List.setIfInBounds_toArray, List.set_cons_zero, List.set_cons_succ] at hfin
   have hfr := hr0.far (p := ⟨w.heap.size, 4, none⟩) (by simp) (.string nm')
   have hfB : Below w.heap.size w (wc.setCell ⟨w.heap.size, 4, none⟩ (.string nm')) := hB0.setCell (Nat.le_refl _) _
   cases bb
   ·have hnm : nm' = xn := by
     rw [hnm'.out, hh'.out]; unfold Hd.ren; rw [if_neg (by simpa using hbb.out.symm)]
    subst hnm
    go_wp2
    go_meet
    exact ⟨hb0, hr0, hB0⟩
   ·have hnm : (chg from_ to_) xn = nm' := by
     rw [hnm'.out, hh'.out]; unfold Hd.ren; rw [if_pos (by simpa using hbb.out.symm)]
    replace hnm := Lib.hid hnm
    have hcn := change1_ok Bf Bt from_ to_ xn wc (hbf.below hB0 hbf.lt) (hbt.below hB0 hbt.lt)
    replace hcn := Lib.hid hcn
    go_wp2_with (go_at_call 110; refine hcn.out.mono ?_; rintro e w' ⟨rfl, rfl⟩)
    go_meet
    have hnm2 : chg from_ to_ xn = nm' := hnm.out
    subst hnm2
    exact ⟨hfin, hfr, hfB⟩
  case rest =>
   obtain ⟨hb1, hr1, hB1⟩ := hcut
   clear c0 c4 f4 hb0 hr0 hB0 hbl hrl
   have hrow : Lex.ok eT wc ⟨xA, xc⟩ subs := Lex.ok.all (keeps_below hB1) hok
   have hcl := cloneExpr ⟨xA, xc⟩ n (cellsL eT subs) wc (by rw [hn'.out]; exact hrow.1) (cellsL_one _ _) (by omega)
   replace hcl := Lib.hid hcl
   have c5 := hb1.cell 5
   simp only [List.getElem?_toArray, List.getElem?_cons_zero, List.getElem?_cons_succ] at c5
   have hbl := hb1.lt
   go_wp2_with (go_at_call 109; refine hcl.out.mono ?_; rintro e w2 ⟨⟨lA, lcap⟩, rfl, hown, hB2⟩; have hb2 := hb1.below hB2 hbl; have d5 := hb2.cell 5; have f5 := hb2.frozen 5; simp only [List.getElem?_toArray, List.getElem?_cons_zero, List.getElem?_cons_succ] at d5; have hbl2 := hb2.lt)
   have hr3 := (hr1.below hB2 hr1.lt).far (p := ⟨w.heap.size, 5, none⟩) (by simp) (.slice lA n lcap)
   have hb3 := hb2.set_ 5 (.slice lA n lcap)
   simp only [List.setIfInBounds_toArray, List.set_cons_zero, List.set_cons_succ] at hb3
   have hB3 : Below w.heap.size w (w2.setCell ⟨w.heap.size, 5, none⟩ (.slice lA n lcap)) := (below_and hB1 hB2).setCell (Nat.le_refl _) _
   have hgt : ∀ b ∈ (Loc.mk lA lcap).fp, w.heap.size + 1 < b := fun b hb => by
    have h1 := (own_ge (l := ⟨lA, lcap⟩) hown b hb).1
    have h2 := hr1.lt
    omega
   have hown3 : (w2.setCell ⟨w.heap.size, 5, none⟩ (.slice lA n lcap)).ownsRow w.heap.size 30 6 (.slice lA n lcap) n (cellsL eT subs) := by
    refine own_base (own_only hown (fp := [w.heap.size]) ((Only.refl _ _).setCell (.inl (by simp)) _) fun k hk hm => ?_) hB1.size
    have := hgt k ((own_fp ⟨lA, lcap⟩ n k).2 hk)
    simp at hm
    omega
   generalize w2.setCell ⟨w.heap.size, 5, none⟩ (.slice lA n lcap) = W3 at *
   clear hb1 hr1 hB1 hrow hcl c5 hbl hb2 hown hB2
   clear wc
   replace hgt := Lib.hid hgt
   go_loopw [27] (fun i wr => ∃ (k : Nat) (news : List (Ex Loc)), i = .int .i64 k ∧ k ≤ n ∧ news.length = k ∧ plains news = rens (chg from_ to_) (subs.take k) ∧ wr.ownsRow w.heap.size 30 6 (.slice lA n lcap) n (cellsL eT (news ++ subs.drop k)) ∧ owns eT wr w.heap.size news ∧ ((Loc.mk lA lcap).fp ++ fps news).Nodup ∧
    (∀ b ∈ fps news, w.heap.size + 1 < b) ∧ Below w.heap.size w wr ∧ Blk wr w.heap.size 30 #[.int .u8 xk, .int .u8 xo, .int .u32 xv, .int .i64 xw, .string nm', .slice lA n lcap] ∧ Blk wr (w.heap.size + 1) 30 #[.int .u8 0, .int .u8 0, .int .u32 0, .int .i64 0, .string ⟨#[]⟩, .slice none 0 0]) (fun i _ => n - (intOf i).toNat)
   case atStart =>
    refine ⟨0, [], rfl, Nat.zero_le _, rfl, rfl, by simpa using hown3, trivial, ?_, by simp [fps], hB3, hb3, hr3⟩
    simp only [fps, List.append_nil]
    unfold Loc.fp
    cases lA <;> simp
   case round =>
    clear hr3 hb3 hB3 hown3
    obtain ⟨k, news, rfl, hk, hnl, hpl, hown, howns, hnd, hnb, hB, hb, hr⟩ := hrel
    have k0 : 0 ≤ (k : Int) := by omega
    have c5 := hb.cell 5
    simp only [List.getElem?_toArray, List.getElem?_cons_zero, List.getElem?_cons_succ] at c5
    have hbl := hb.lt
    by_cases hlt : k < n
    ·have hx : subs[k]? = some (subs[k]'(by have := hn'.out; omega)) := List.getElem?_eq_getElem (by have := hn'.out; omega)
     generalize subs[k]'(by have := hn'.out; omega) = x at hx
     have hdrop : subs.drop k = x :: subs.drop (k + 1) := by
      obtain ⟨h1, h2⟩ := List.getElem?_eq_some_iff.1 hx
      rw [List.drop_eq_getElem_cons h1, h2]
     rw [hdrop] at hown
     obtain ⟨g, cap, hv, _, hglt⟩ := hown.form (by omega)
     injection hv with hv _ hcp
     subst hv
     subst hcp
     have hxok := oks_at (hok.2) hx
     have hih := (ih.out x (List.mem_of_getElem? hx))
     have hxsz := szs_mem (List.mem_of_getElem? hx)
     have htk : rens (chg from_ to_) (subs.take (k + 1)) = rens (chg from_ to_) (subs.take k) ++ [x.ren (chg from_ to_)] := by
      obtain ⟨h1, h2⟩ := List.getElem?_eq_some_iff.1 hx
      rw [rens_map, rens_map, List.take_succ_eq_append_getElem h1, h2, List.map_append]; rfl
     obtain ⟨⟨yk, yo, yv, yw, yn⟩, ⟨yA, yc⟩, ys⟩ := x
     have hpre : (cellsL eT news).length = k * 6 := by rw [cellsL_len, hnl]
     have hxs : cellsL eT (news ++ Ex.mk ⟨yk, yo, yv, yw, yn⟩ ⟨yA, yc⟩ ys :: subs.drop (k + 1)) = cellsL eT news ++ .int .u8 yk :: .int .u8 yo :: .int .u32 yv :: .int .i64 yw :: .string yn :: .slice yA ys.length yc :: cellsL eT (subs.drop (k + 1)) := by rw [cellsL_append]; rfl
     rw [hxs] at hown
     obtain ⟨⟨r0, r1, r2, r3, r4, r5⟩, _, _⟩ := own_six hown hpre
     have hcall : ∀ w2, Below w.heap.size w w2 → Calls Tryz.prog 82 #[.agg #[.int .u8 yk, .int .u8 yo, .int .u32 yv, .int .i64 yw, .string yn, .slice yA ys.length yc], .func (.func 110) #[] #[.pointer (some ⟨Bf, 0, none⟩), .pointer (some ⟨Bt, 0, none⟩)]] w2 fun r w' =>
       ∃ zk zo zv zw zn zA zc zs, r = .returned (.agg #[.int .u8 zk, .int .u8 zo, .int .u32 zv, .int .i64 zw, .string zn, .slice zA (zs : List (Ex Loc)).length zc]) ∧ (Ex.mk ⟨zk, zo, zv, zw, zn⟩ (⟨zA, zc⟩ : Loc) zs).plain = Ex.ren (chg from_ to_) (Ex.mk ⟨yk, yo, yv, yw, yn⟩ (⟨yA, yc⟩ : Loc) ys) ∧ (Ex.mk ⟨zk, zo, zv, zw, zn⟩ ⟨zA, zc⟩ zs).own eT w' w2.heap.size ∧ (Ex.mk ⟨zk, zo, zv, zw, zn⟩ ⟨zA, zc⟩ zs).fp.Nodup ∧ Below w2.heap.size w2 w' := fun w2 h2 =>
      (hih w2 (hxok.below h2) (by have := hsz.out; omega) (hbf.below h2 hbf.lt) (hbt.below h2 hbt.lt)).mono fun r w' ⟨L, h1, h2, h3, h4, h5⟩ => by
       obtain ⟨⟨zk, zo, zv, zw, zn⟩, ⟨zA, zc⟩, zs⟩ := L
       exact ⟨zk, zo, zv, zw, zn, zA, zc, zs, h1, h2, h3, h4, h5⟩
     have hx' := Lib.hid hx
     have htk' := Lib.hid htk
     have hnl' := Lib.hid hnl
     have hpl' := Lib.hid hpl
     have hpre' := Lib.hid hpre
     replace hcall := Lib.hid hcall
     clear hx hdrop htk hnl hpl hpre hih hxsz hxok hxs
     have k1 : (k : Int) < (n : Int) := by omega
     have hBx := (Below.refl _ wr).alloc (Nat.le_refl _) (.cells #[.int .u8 yk, .int .u8 yo, .int .u32 yv, .int .i64 yw, .string yn, .slice yA ys.length yc] 30)
     have hbx := Blk.new wr 30 #[.int .u8 yk, .int .u8 yo, .int .u32 yv, .int .i64 yw, .string yn, .slice yA ys.length yc]
     go_wp2
     have hby := hb.below hBx hbl
     generalize wr.alloc (.cells #[.int .u8 yk, .int .u8 yo, .int .u32 yv, .int .i64 yw, .string yn, .slice yA ys.length yc] 30) = W4 at *
     have hBw4 : Below w.heap.size w W4 := below_and hB hBx
     have hown4 := own_only hown (only_of_below [] hBx) (by simp)
     have howns4 : owns eT W4 w.heap.size news := owns_keep (only_of_below [] hBx) howns (by simp)
     have hr4 := hr.below hBx hr.lt
     have hglt4 : g < W4.heap.size := Nat.lt_of_lt_of_le hglt hBx.size
     have hwl : w.heap.size < W4.heap.size := hby.lt
     have hxl : wr.heap.size < W4.heap.size := hbx.lt
     clear c5 r0 r1 r2 r3 r4 r5 hown howns hr
     obtain ⟨bx, hbxe⟩ : ∃ bx, wr.heap.size = bx := ⟨_, rfl⟩
     rw [hbxe] at hbx hxl ⊢
     replace hbxe := Lib.hid hbxe
     obtain ⟨S, hSi, hSe⟩ : ∃ S : World → Prop, (∀ W, (W.cell? ⟨w.heap.size, 5, none⟩ = some (.slice (some ⟨g, 0, none⟩) n lcap) ∧ W.cell? ⟨bx, 0, none⟩ = some (.int .u8 yk) ∧ W.cell? ⟨bx, 1, none⟩ = some (.int .u8 yo) ∧ W.cell? ⟨bx, 2, none⟩ = some (.int .u32 yv) ∧ W.cell? ⟨bx, 3, none⟩ = some (.int .i64 yw) ∧ W.cell? ⟨bx, 4, none⟩ = some (.string yn) ∧ W.cell? ⟨bx, 5, none⟩ = some (.slice yA ys.length yc)) → S W) ∧ (∀ W, S W → (W.cell? ⟨w.heap.size, 5, none⟩ = some (.slice (some ⟨g, 0, none⟩) n lcap) ∧ W.cell? ⟨bx, 0, none⟩ = some (.int .u8 yk) ∧ W.cell? ⟨bx, 1, none⟩ = some (.int .u8 yo) ∧ W.cell? ⟨bx, 2, none⟩ = some (.int .u32 yv) ∧ W.cell? ⟨bx, 3, none⟩ = some (.int .i64 yw) ∧ W.cell? ⟨bx, 4, none⟩ = some (.string yn) ∧ W.cell? ⟨bx, 5, none⟩ = some (.slice yA ys.length yc))) := ⟨fun W => W.cell? ⟨w.heap.size, 5, none⟩ = some (.slice (some ⟨g, 0, none⟩) n lcap) ∧ W.cell? ⟨bx, 0, none⟩ = some (.int .u8 yk) ∧ W.cell? ⟨bx, 1, none⟩ = some (.int .u8 yo) ∧ W.cell? ⟨bx, 2, none⟩ = some (.int .u32 yv) ∧ W.cell? ⟨bx, 3, none⟩ = some (.int .i64 yw) ∧ W.cell? ⟨bx, 4, none⟩ = some (.string yn) ∧ W.cell? ⟨bx, 5, none⟩ = some (.slice yA ys.length yc), fun _ h => h, fun _ h => h⟩
     have hS : S W4.drew := hSi _ ⟨hby.cell 5, hbx.cell 0, hbx.cell 1, hbx.cell 2, hbx.cell 3, hbx.cell 4, hbx.cell 5⟩
     replace hSi := Lib.hid hSi
     replace hSe := Lib.hid hSe
     refine wp_region_held (S := S) (by kernel_rfl) ?_
     change wpAnyH _ _ _ _ _ _ _ _ (World.drew _)
     refine takeH 0 (v := ?_) rfl (by kernel_rfl) (by kernel_rfl) (by kernel_rfl) (fun _ _ _ h => h) (by rfl) hS ?_ ?_
     rotate_left
     ·(intro wz hSw; obtain ⟨z0, z1, z2, z3, z4, z5, z6⟩ := hSe.out _ hSw; go_simp; try with_reducible rfl)
     try simp only [Act.put, List.setIfInBounds_toArray, List.set_cons_zero, List.set_cons_succ]
     refine takeH 1 (v := .slice (some ⟨g, 0, none⟩) n lcap) rfl (by kernel_rfl) (by kernel_rfl) (by kernel_rfl) (fun _ _ _ h => h) (by rfl) hS ?_ ?_
     ·(intro wz hSw; obtain ⟨z0, z1, z2, z3, z4, z5, z6⟩ := hSe.out _ hSw; go_simp)
     try simp only [Act.put, List.setIfInBounds_toArray, List.set_cons_zero, List.set_cons_succ]
     refine takeH 2 (v := ?_) rfl (by kernel_rfl) (by kernel_rfl) (by kernel_rfl) (fun _ _ _ h => h) (by rfl) hS ?_ ?_
     rotate_left
     ·(intro wz hSw; obtain ⟨z0, z1, z2, z3, z4, z5, z6⟩ := hSe.out _ hSw; go_simp; try with_reducible rfl)
     try simp only [Act.put, List.setIfInBounds_toArray, List.set_cons_zero, List.set_cons_succ]
     refine takeH 3 (v := .agg #[.int .u8 yk, .int .u8 yo, .int .u32 yv, .int .i64 yw, .string yn, .slice yA ys.length yc]) rfl (by kernel_rfl) (by kernel_rfl) (by kernel_rfl) (fun _ _ _ h => h) (by rfl) hS ?_ ?_
     ·(intro wz hSw; obtain ⟨z0, z1, z2, z3, z4, z5, z6⟩ := hSe.out _ hSw; go_simp)
     try simp only [Act.put, List.setIfInBounds_toArray, List.set_cons_zero, List.set_cons_succ]
     refine takeH 4 (v := ?_) rfl (by kernel_rfl) (by kernel_rfl) (by kernel_rfl) (fun _ _ _ h => h) (by rfl) hS ?_ ?_
     rotate_left
     ·(intro wz hSw; obtain ⟨z0, z1, z2, z3, z4, z5, z6⟩ := hSe.out _ hSw; go_simp; try with_reducible rfl)
     try simp only [Act.put, List.setIfInBounds_toArray, List.set_cons_zero, List.set_cons_succ]
     refine callH 5 rfl (by kernel_rfl) (fun K hK => ?_)
     go_simp
     go_wp2_with (go_at_call 82; refine (hcall.out W4.drew hBw4.drew).mono ?_; rintro e w5 ⟨zk, zo, zv, zw, zn, zA, zc, zs, rfl, hLp, hLo, hLn, hB5'⟩)
     have hB5 := below_undrew hB5'
     have hby5 := hby.below hB5 hwl
     have hbx5 := hbx.below hB5 hxl
     have hown5 := own_only hown4 (only_of_below [] hB5) (by simp)
     have hth := there_six hown5 hpre'.out
     refine hK.out _ _ (hSi.out _ ⟨hby5.cell 5, hbx5.cell 0, hbx5.cell 1, hbx5.cell 2, hbx5.cell 3, hbx5.cell 4, hbx5.cell 5⟩) (fun hSn => ?_)
     clear hK K hS
     have hS := hSn
     clear hSn
     refine takeH 6 (v := .pointer (some ⟨g, k * 6, none⟩)) rfl (by kernel_rfl) (by kernel_rfl) (by kernel_rfl) (fun _ _ _ h => h) (by rfl) hS ?_ ?_
     ·(intro wz hSw; obtain ⟨z0, z1, z2, z3, z4, z5, z6⟩ := hSe.out _ hSw; go_simp)
     try simp only [Act.put, List.setIfInBounds_toArray, List.set_cons_zero, List.set_cons_succ]
     have hgo : Only [g] w5 ((((((w5.setCell ⟨g, k * 6, none⟩ (.int .u8 zk)).setCell ⟨g, k * 6 + 1, none⟩ (.int .u8 zo)).setCell ⟨g, k * 6 + 2, none⟩ (.int .u32 zv)).setCell ⟨g, k * 6 + 3, none⟩ (.int .i64 zw)).setCell ⟨g, k * 6 + 4, none⟩ (.string zn)).setCell ⟨g, k * 6 + 5, none⟩ (.slice zA zs.length zc)) := Only.six (Only.refl _ _) (.inl (by simp)) _ _ _ _ _ _
     have hown6 := own_put6 hown5 hpre'.out (.int .u8 zk) (.int .u8 zo) (.int .u32 zv) (.int .i64 zw) (.string zn) (.slice zA zs.length zc)
     have hgw : w.heap.size + 1 < g := hgt.out g (by simp [Loc.fp])
     have hgx : g < bx := by have := hbxe.out; omega
     have hby6 := hby5.only hgo (by simp; omega)
     have hbx6 := hbx5.only hgo (by simp; omega)
     refine callH 7 rfl (by kernel_rfl) (fun K hK => ?_)
     rw [if_pos (by rfl)]
     refine wp_store_six 30 (.tmp 38) (.tmp 37) rfl g (k * 6) (.int .u8 zk) (.int .u8 zo) (.int .u32 zv) (.int .i64 zw) (.string zn) (.slice zA zs.length zc) rfl rfl hth (by kernel_rfl) (by simp [Value.oneCell']) ?_
     refine hK.out _ _ (hSi.out _ ⟨hby6.cell 5, hbx6.cell 0, hbx6.cell 1, hbx6.cell 2, hbx6.cell 3, hbx6.cell 4, hbx6.cell 5⟩) (fun hSn => ?_)
     clear hK K hS
     have hS := hSn
     clear hSn
     refine wpAnyH_done (by kernel_rfl) ?_ _
     generalize ((((((w5.setCell ⟨g, k * 6, none⟩ (.int .u8 zk)).setCell ⟨g, k * 6 + 1, none⟩ (.int .u8 zo)).setCell ⟨g, k * 6 + 2, none⟩ (.int .u32 zv)).setCell ⟨g, k * 6 + 3, none⟩ (.int .i64 zw)).setCell ⟨g, k * 6 + 4, none⟩ (.string zn)).setCell ⟨g, k * 6 + 5, none⟩ (.slice zA zs.length zc)) = w6 at *
     clear hS hSi hSe
     clear S
     have hLge := hLo.ge
     have hL6 : (Ex.mk ⟨zk, zo, zv, zw, zn⟩ ⟨zA, zc⟩ zs).own eT w6 w.heap.size := by
      refine (hLo.keep hgo fun q hq hm => ?_).base_le (Nat.le_trans hBw4.size (Nat.le_refl _))
      have h1 := (hLge q hq).1
      simp only [List.mem_singleton] at hm
      subst hm
      have : q < W4.heap.size := hglt4
      exact absurd h1 (Nat.not_le.2 this)
     have hns6 : owns eT w6 w.heap.size news := owns_keep hgo (owns_keep (only_of_below [] hB5) howns4 (by simp)) fun q hq hm => by
      simp only [List.mem_singleton] at hm
      subst hm
      exact (List.nodup_append.1 hnd).2.2 q (by simp [Loc.fp]) q hq rfl
     have hB6 : Below w.heap.size w w6 := (below_and hBw4 hB5).trans (hgo.below (by have := hB5.size; omega) (by simp; omega))
     have hr6 := (hr4.below hB5 hr4.lt).only hgo (by simp; omega)
     have hnsge := owns_ge howns4
     replace hLge := Lib.hid hLge
     replace hgt := Lib.hid hgt
     replace hnb := Lib.hid hnb
     replace hnsge := Lib.hid hnsge
     clear hgo
     go_wp2_with fail
     go_roundw
     case rel =>
      refine ⟨k + 1, news ++ [Ex.mk ⟨zk, zo, zv, zw, zn⟩ ⟨zA, zc⟩ zs], by go_num, by omega, by rw [List.length_append, hnl'.out]; rfl, ?_, ?_, ?_, ?_, ?_, hB6, hby6, hr6⟩
      ·have h1 := hpl'.out
       have h2 := htk'.out
       rw [plains_map] at h1 ⊢
       rw [h2, List.map_append, h1, List.map_cons, List.map_nil, hLp]
      ·rw [List.append_assoc, cellsL_append]
       exact hown6
      ·exact owns_iff.2 fun y hy => by
        rcases List.mem_append.1 hy with hy | hy
        ·exact owns_iff.1 hns6 y hy
        ·rw [List.mem_singleton] at hy; rw [hy]; exact hL6
      ·rw [fps_append, ← List.append_assoc]
       refine List.nodup_append.2 ⟨hnd, by simpa [fps] using hLn, fun b hb c hc hbc => ?_⟩
       subst hbc
       have h1 : W4.heap.size ≤ b := (hLge.out b (by simpa [fps] using hc)).1
       rcases List.mem_append.1 hb with hb | hb
       ·simp [Loc.fp] at hb
        omega
       ·have := (hnsge.out b hb).2
        omega
      ·intro b hb
       rw [fps_append] at hb
       rcases List.mem_append.1 hb with hb | hb
       ·exact hnb.out b hb
       ·have h1 : W4.heap.size ≤ b := (hLge.out b (by simpa [fps] using hb)).1
        omega
     case measure => simp [intOf]; omega
    ·obtain rfl : k = n := by omega
     have hdr : subs.drop k = [] := List.drop_eq_nil_of_le (by have := hn'.out; omega)
     have htk : subs.take k = subs := List.take_of_length_le (by have := hn'.out; omega)
     rw [hdr, List.append_nil] at hown
     rw [htk] at hpl
     have hL : (Ex.mk ⟨xk, xo, xv, xw, nm'⟩ ⟨lA, lcap⟩ news).plain = (Ex.mk ⟨xk, xo, xv, xw, xn⟩ (⟨xA, xc⟩ : Loc) subs).ren (chg from_ to_) := by
      have e1 : (Hd.mk xk xo xv xw nm') = (Hd.mk xk xo xv xw xn).ren (chg from_ to_) := by
       rw [hnm'.out, hh'.out]; unfold Hd.ren; split <;> rfl
      simp only [Ex.plain, Ex.ren, hpl, e1]
     have q0 := hb.cell 0
     have q1 := hb.cell 1
     have q2 := hb.cell 2
     have q3 := hb.cell 3
     have q4 := hb.cell 4
     simp only [List.getElem?_toArray, List.getElem?_cons_zero, List.getElem?_cons_succ] at q0 q1 q2 q3 q4
     have hrl := hr.lt
     have z0 := hr.cell 0
     have z1 := hr.cell 1
     have z2 := hr.cell 2
     have z3 := hr.cell 3
     have z4 := hr.cell 4
     have z5 := hr.cell 5
     have zf := fun j => hr.frozen j
     simp only [List.getElem?_toArray, List.getElem?_cons_zero, List.getElem?_cons_succ] at z0 z1 z2 z3 z4 z5
     replace hnl := Lib.hid hnl
     replace hpl := Lib.hid hpl
     replace hL := Lib.hid hL
     replace hdr := Lib.hid hdr
     replace htk := Lib.hid htk
     have hgt' := hgt
     go_wp2_with fail
     have hbf := (((((hr.set_ 0 (.int .u8 xk)).set_ 1 (.int .u8 xo)).set_ 2 (.int .u32 xv)).set_ 3 (.int .i64 xw)).set_ 4 (.string nm')).set_ 5 (.slice lA k lcap)
     simp only [List.setIfInBounds_toArray, List.set_cons_zero, List.set_cons_succ] at hbf
     have hof : Only [w.heap.size + 1] wr ((((((wr.setCell ⟨w.heap.size + 1, 0, none⟩ (.int .u8 xk)).setCell ⟨w.heap.size + 1, 1, none⟩ (.int .u8 xo)).setCell ⟨w.heap.size + 1, 2, none⟩ (.int .u32 xv)).setCell ⟨w.heap.size + 1, 3, none⟩ (.int .i64 xw)).setCell ⟨w.heap.size + 1, 4, none⟩ (.string nm')).setCell ⟨w.heap.size + 1, 5, none⟩ (.slice lA k lcap)) :=
      ((((((Only.refl _ _).setCell (.inl (by simp)) _).setCell (.inl (by simp)) _).setCell (.inl (by simp)) _).setCell (.inl (by simp)) _).setCell (.inl (by simp)) _).setCell (.inl (by simp)) _
     refine bodyPost_ret (results_cell_row rfl _ _ (w.heap.size + 1) 30 _ (0, 0) _ rfl hbf Tryz.underlying30 rfl (by kernel_rfl)) rfl ?_
     have hnk : news.length = k := hnl.out
     refine ⟨Ex.mk ⟨xk, xo, xv, xw, nm'⟩ ⟨lA, lcap⟩ news, by show _ = Ending.returned (.agg #[.int .u8 xk, .int .u8 xo, .int .u32 xv, .int .i64 xw, .string nm', .slice lA news.length lcap]); rw [hnk], hL.out, ⟨?_, ?_⟩, hnd, hB.trans (hof.below (Nat.le_of_lt (Nat.lt_of_succ_lt hrl)) (by simp))⟩
     ·show World.ownsRow _ _ 30 6 (.slice lA news.length lcap) news.length (cellsL eT news)
      rw [hnk]
      refine own_only hown hof fun q hq hm => ?_
      have h1 := hgt.out q ((own_fp ⟨lA, lcap⟩ k q).2 hq)
      simp at hm
      omega
     ·exact owns_keep hof howns fun q hq hm => by
       have h1 := hnb q hq
       simp at hm
       omega
end Go.Proofs.YtnldbplphgfpeaaGreat
