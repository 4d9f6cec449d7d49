/- Lemmas for salvor/salvorlaw29.TreeSmall (part 7); no condition. -/
import Derived.Test.YtnldbplphgfpeaaGreatP06
namespace Go.Proofs.YtnldbplphgfpeaaGreat
open Go Go.RowKit Go.Shelf
set_option linter.unusedVariables false
set_option linter.unusedSimpArgs false
set_option maxHeartbeats 4000000
theorem nodup_at {l1 l2 : List Nat} (h1 : l1.Nodup) (h2 : l2.Nodup) {B : Nat} (b1 : ∀ b ∈ l1, b < B) (b2 : ∀ b ∈ l2, B ≤ b) : (l1 ++ l2).Nodup :=
 List.nodup_append.2 ⟨h1, h2, fun a ha b hb e => by have := b1 a ha; have := b2 b hb; omega⟩
structure NSt (w : World) (f : ByteArray → ByteArray) (ls : List (St Loc)) (lA : Option Addr) (lcap n k : Nat) (news : List (St Loc)) (wr : World) : Prop where
 kn : k ≤ n
 len : news.length = k
 pl : plainS news = renS f (ls.take k)
 row : wr.ownsRow w.heap.size 40 6 (.slice lA n lcap) n (cellsS eT (news ++ ls.drop k))
 own : ownS eT wr w.heap.size news
 nd : ((Loc.mk lA lcap).fp ++ fpS news).Nodup
 be : Below w.heap.size w wr
structure NMid (w : World) (news : List (St Loc)) (post : List Value) (g lcap n i : Nat) (six : List Value) (wr : World) : Prop where
 pre : (cellsS eT news).length = i
 ng : g ∉ fpS news
 row : wr.ownsRow w.heap.size 40 6 (.slice (some ⟨g, 0, none⟩) n lcap) n (cellsS eT news ++ (six ++ post))
 own : ownS eT wr w.heap.size news
 be : Below w.heap.size w wr
section
variable {w wr wr' : World} {news : List (St Loc)} {post six : List Value} {g lcap n i : Nat}
theorem NMid.lt (h : NMid w news post g lcap n i six wr) : w.heap.size ≤ g ∧ g < wr.heap.size := h.row.lt g rfl
theorem NMid.same (h : NMid w news post g lcap n i six wr) (hs : ∀ b, (b = g ∨ b ∈ fpS news) → wr'.heap[b]? = wr.heap[b]?) (hb : Below w.heap.size w wr') : NMid w news post g lcap n i six wr' :=
 ⟨h.pre, h.ng, own_same h.row (fun k hk => hs k (.inl (by simpa [Value.ownBlock] using hk.symm))), ownS_same h.own (fun b hb => hs b (.inr hb)), hb⟩
theorem NMid.new (h : NMid w news post g lcap n i six wr) (hb : Below wr.heap.size wr wr') : NMid w news post g lcap n i six wr' :=
 h.same (fun b hb' => hb.block b (by
  rcases hb' with e | hb'
  ·rw [e]; exact h.lt.2
  ·exact (ownS_ge h.own b hb').2)) (below_and h.be hb)
theorem NMid.low (h : NMid w news post g lcap n i six wr) : ∀ b, (b = g ∨ b ∈ fpS news) → b < wr.heap.size := fun b hb' => by
 rcases hb' with e | hb'
 ·rw [e]; exact h.lt.2
 ·exact (ownS_ge h.own b hb').2
theorem NMid.put (h : NMid w news post g lcap n i six wr) (j : Nat) (hj : j < six.length) (u : Value) : NMid w news post g lcap n i (six.set j u) (wr.setCell ⟨g, i + j, none⟩ u) :=
 ⟨h.pre, h.ng, own_put_at h.row h.pre j hj u, ownS_keep ((Only.refl [g] wr).setCell (.inl (by simp)) u) h.own (fun b hb hm => by simp at hm; rw [hm] at hb; exact h.ng hb), h.be.setCell h.lt.1 _⟩
theorem NMid.at_ (h : NMid w news post g lcap n i six wr) (j : Nat) {u : Value} (hu : six[j]? = some u) : wr.cell? ⟨g, i + j, none⟩ = some u ∧ wr.frozen? ⟨g, i + j, none⟩ = false :=
 ⟨(own_at h.row h.pre j hu).1, (own_at h.row h.pre j hu).2.1⟩
end
structure NEx (w : World) (f : ByteArray → ByteArray) (yx : List (Ex Loc)) (eA : Option Addr) (ecap m BB : Nat) (W7 : World) (j : Nat) (newsE : List (Ex Loc)) (wr : World) : Prop where
 kn : j ≤ m
 len : newsE.length = j
 pl : plains newsE = rens f (yx.take j)
 row : wr.ownsRow w.heap.size 30 6 (.slice eA m ecap) m (cellsL eT (newsE ++ yx.drop j))
 own : owns eT wr w.heap.size newsE
 nd : ((Loc.mk eA ecap).fp ++ fps newsE).Nodup
 hi : ∀ b ∈ (Loc.mk eA ecap).fp ++ fps newsE, BB ≤ b
 be : Below BB W7 wr
set_option maxRecDepth 100000 in
theorem namedS_keep : ∀ (ls : List (St Loc)) (lc : Loc) (w : World), Lst.ok eT w lc ls → szS ls ≤ 20000 →
  Calls Tryz.prog 88 #[.slice lc.A ls.length lc.c, .func (.func 83) #[] #[]] w fun r w' => ∃ (tA : Option Addr) (tc : Nat) (news : List (St Loc)), r = .returned (.slice tA ls.length tc) ∧ news.length = ls.length ∧ plainS news = renS id ls ∧ Lst.own eT w' w.heap.size ⟨tA, tc⟩ news ∧ (Lst.fp ⟨tA, tc⟩ news).Nodup ∧ Below w.heap.size w w' := by
 intro ls
 induction ls using St.list with
 | h ls ih =>
 intro lc w hok hsz
 have hlen := szS_len ls
 have hcl := cloneStmt lc ls.length (cellsS eT ls) w hok.1 (cellsS_one _ _) (by omega)
 obtain ⟨n, hn⟩ : ∃ n, n = ls.length := ⟨_, rfl⟩
 rw [← hn] at hlen hcl ⊢
 have hn2 : n ≤ 20000 := by omega
 have hn' := Lib.hid hn
 clear hn
 replace hsz := Lib.hid hsz
 replace hlen := Lib.hid hlen
 replace ih := Lib.hid ih
 replace hcl := Lib.hid hcl
 go_enter Tryz.func88, Tryz.ntmps88
 go_wp2_with (go_at_call 111; refine hcl.out.mono ?_; rintro e w1 ⟨⟨lA, lcap⟩, rfl, hown, hB1⟩)
 go_loopw [14] (fun i wr => ∃ (k : Nat) (news : List (St Loc)), i = .int .i64 k ∧ NSt w id ls lA lcap n k news wr) (fun i _ => n - (intOf i).toNat)
 case atStart =>
  refine ⟨0, [], rfl, Nat.zero_le _, rfl, rfl, hown, trivial, ?_, hB1⟩
  simp only [fpS, List.append_nil]
  unfold Loc.fp
  cases lA <;> simp
 case round =>
  clear hown hB1 hcl
  obtain ⟨k, news, rfl, hN⟩ := hrel
  have k0 : 0 ≤ (k : Int) := by omega
  have hkn := hN.kn
  by_cases hlt : k < n
  ·have hx : ls[k]? = some (ls[k]'(by have := hn'.out; omega)) := List.getElem?_eq_getElem (by have := hn'.out; omega)
   generalize ls[k]'(by have := hn'.out; omega) = x at hx
   have hdrop : ls.drop k = x :: ls.drop (k + 1) := by
    obtain ⟨h1, h2⟩ := List.getElem?_eq_some_iff.1 hx
    rw [List.drop_eq_getElem_cons h1, h2]
   have hrow := hN.row
   rw [hdrop] at hrow
   obtain ⟨g, cap, hv, _, hglt⟩ := hrow.form (by omega)
   injection hv with hv _ hcp
   subst hv
   subst hcp
   have hxok := okS_at (hok.2) hx
   have hih := ih.out x (List.mem_of_getElem? hx)
   have hxsz := szS_mem (List.mem_of_getElem? hx)
   have htk : renS id (ls.take (k + 1)) = renS id (ls.take k) ++ [x.ren id] := by
    obtain ⟨h1, h2⟩ := List.getElem?_eq_some_iff.1 hx
    rw [renS_map, renS_map, List.take_succ_eq_append_getElem h1, h2, List.map_append]; rfl
   obtain ⟨⟨yk, yn, yb⟩, ⟨aA, ac⟩, ⟨bA, bc⟩, ⟨cA, cc⟩, yx, yt, ye⟩ := x
   obtain ⟨hpx, hpt, hpe⟩ := hxok.parts
   simp only [St.sz] at hxsz
   simp only [St.th, St.el] at hih
   obtain ⟨m, hm⟩ : ∃ m, m = yx.length := ⟨_, rfl⟩
   have hm2 : m ≤ 20000 := by have := szs_len yx; have := hsz.out; omega
   have hM0 : NMid w news (cellsS eT (ls.drop (k + 1))) g lcap n (k * 6) [.int .u8 yk, .string yn, .slice aA m ac, .int .i64 yb, .slice bA yt.length bc, .slice cA ye.length cc] wr := by
    refine ⟨by rw [cellsS_len, hN.len], fun h => ?_, ?_, hN.own, hN.be⟩
    ·exact (List.nodup_append.1 hN.nd).2.2 g (by simp [Loc.fp]) g h rfl
    ·rw [cellsS_append] at hrow
     rw [hm]; exact hrow
   have r0 := (hM0.at_ 0 rfl).1
   have r1 := (hM0.at_ 1 rfl).1
   have r2 := (hM0.at_ 2 rfl).1
   have r3 := (hM0.at_ 3 rfl).1
   have r4 := (hM0.at_ 4 rfl).1
   have r5 := (hM0.at_ 5 rfl).1
   rw [Nat.add_zero] at r0
   have hc1 : ∀ w2, Below w.heap.size w w2 → ∀ (v : Ex Loc), v ∈ yx → Calls Tryz.prog 82 #[aggX v, .func (.func 83) #[] #[]] w2 fun r w' => ∃ L : Ex Loc, r = .returned (aggX L) ∧ L.plain = v.ren id ∧ L.own eT w' w2.heap.size ∧ L.fp.Nodup ∧ Below w2.heap.size w2 w' := fun w2 h2 v hv =>
    named_keep v w2 ((oks_iff.1 hpx.2 v hv).below h2) (by have := szs_mem hv; have := hsz.out; omega)
   have hc2 := fun w2 (h2 : Below w.heap.size w w2) => hih.1 ⟨bA, bc⟩ w2 (hpt.all (keeps_below h2)) (by have := hsz.out; omega)
   have hc3 := fun w2 (h2 : Below w.heap.size w w2) => hih.2 ⟨cA, cc⟩ w2 (hpe.all (keeps_below h2)) (by have := hsz.out; omega)
   have hcx := fun w2 (h2 : Below w.heap.size w w2) => cloneExpr ⟨aA, ac⟩ yx.length (cellsL eT yx) w2 (hpx.all (keeps_below h2)).1 (cellsL_one _ _) (by omega)
   rw [← hm] at hcx
   have hmx : (x : Nat) → True := fun _ => trivial
   have hx' := Lib.hid hx
   have htk' := Lib.hid htk
   have hm' := Lib.hid hm
   have hpx' := Lib.hid hpx
   replace hc1 := Lib.hid hc1
   replace hc2 := Lib.hid hc2
   replace hc3 := Lib.hid hc3
   replace hcx := Lib.hid hcx
   clear hmx hx hdrop htk hih hxsz hxok hrow hm hpx hpt hpe
   have k1 : (k : Int) < (n : Int) := by omega
   have hd1 : decide ((k : Int) < (n : Int)) = true := by simp; omega
   have hBx := (Below.refl _ wr).alloc (Nat.le_refl _) (.cells #[.int .u8 yk, .string yn, .slice aA m ac, .int .i64 yb, .slice bA yt.length bc, .slice cA ye.length cc] 40)
   have hbs := Blk.new wr 40 #[.int .u8 yk, .string yn, .slice aA m ac, .int .i64 yb, .slice bA yt.length bc, .slice cA ye.length cc]
   have hM4 := hM0.new hBx
   go_upto_region 5 with (fail)
   generalize wr.alloc (.cells #[.int .u8 yk, .string yn, .slice aA m ac, .int .i64 yb, .slice bA yt.length bc, .slice cA ye.length cc] 40) = W4 at *
   have hgb : g < wr.heap.size := hM0.lt.2
   obtain ⟨bs, hbse⟩ : ∃ bs, wr.heap.size = bs := ⟨_, rfl⟩
   rw [hbse] at hbs hgb ⊢
   replace hbse := Lib.hid hbse
   have hbl := hbs.lt
   have hne : g ≠ bs := by omega
   have hne' : bs ≠ g := by omega
   clear r0 r1 r2 r3 r4 r5
   have c0 := hbs.cell 0
   have c1 := hbs.cell 1
   simp only [List.getElem?_toArray, List.getElem?_cons_zero, List.getElem?_cons_succ] at c0 c1
   obtain ⟨bb, hbb⟩ : ∃ bb : Bool, bb = decide (yk = 1 ∨ yk = 2) := ⟨_, rfl⟩
   replace hbb := Lib.hid hbb
   obtain ⟨h', hh'⟩ : ∃ h', h' = (SHd.mk yk yn yb).ren id := ⟨_, rfl⟩
   obtain ⟨nm', hnm'⟩ : ∃ nm', nm' = h'.nm := ⟨_, rfl⟩
   replace hh' := Lib.hid hh'
   replace hnm' := Lib.hid hnm'
   go_cut [26] (fun b26 wx => b26 = .bool bb ∧ wx = W4)
   case first =>
    by_cases h1 : yk = 1
    ·have e : (yk == 1) = true := by simp [h1]
     have hbt : bb = true := by rw [hbb.out]; simp [h1]
     subst hbt
     clear h1
     go_wp2
     go_meet
     exact ⟨rfl, rfl⟩
    ·have e : (yk == 1) = false := by simp [h1]
     by_cases h2 : yk = 2
     ·have e3 : (yk == 2) = true := by simp [h2]
      have hbt : bb = true := by rw [hbb.out]; simp [h2]
      subst hbt
      clear h1 h2
      go_wp2
      go_meet
      exact ⟨rfl, rfl⟩
     ·have e3 : (yk == 2) = false := by simp [h2]
      have hbt : bb = false := by rw [hbb.out]; simp [h1, h2]
      subst hbt
      clear h1 h2
      go_wp2
      go_meet
      exact ⟨rfl, rfl⟩
   case rest =>
    obtain ⟨rfl, hwc⟩ := hcut
    subst hwc
    go_upto_if 26 with (fail)
    go_cut [] (fun wx => NMid w news (cellsS eT (ls.drop (k + 1))) g lcap n (k * 6) [.int .u8 yk, .string nm', .slice aA m ac, .int .i64 yb, .slice bA yt.length bc, .slice cA ye.length cc] wx ∧ Blk wx bs 40 #[.int .u8 yk, .string yn, .slice aA m ac, .int .i64 yb, .slice bA yt.length bc, .slice cA ye.length cc])
    case first =>
     have hfin := hM4.put 1 (by simp) (.string nm')
     have hfb := hbs.far (p := ⟨g, k * 6 + 1, none⟩) hne' (.string nm')
     obtain ⟨r1, q1⟩ := hM4.at_ 1 rfl
     have hgl := hM4.lt.2
     have hcn := hM4.be
     cases bb
     ·have hnm : nm' = yn := by
       rw [hnm'.out, hh'.out]; unfold SHd.ren; rw [if_neg (by simpa using hbb.out.symm)]
      subst hnm
      go_wp2
      go_meet
      exact ⟨hM4, hbs⟩
     ·have hnm : id yn = nm' := by
       rw [hnm'.out, hh'.out]; unfold SHd.ren; rw [if_pos (by simpa using hbb.out.symm)]
      replace hnm := Lib.hid hnm
      go_wp2_with (go_at_call 83; refine (keep_ok _ _).mono ?_; rintro e w' ⟨rfl, rfl⟩)
      go_meet
      have hnm2 : yn = nm' := hnm.out
      subst hnm2
      exact ⟨hfin, hfb⟩
    case rest =>
     obtain ⟨hM5, hbs5⟩ := hcut
     clear c0 c1 hbs hM4 hM0 hbl hBx
     have c2 := hbs5.cell 2
     simp only [List.getElem?_toArray, List.getElem?_cons_zero, List.getElem?_cons_succ] at c2
     have hbl := hbs5.lt
     obtain ⟨BB, hBB⟩ : ∃ BB, wc.heap.size = BB := ⟨_, rfl⟩
     go_wp2_with (go_at_call 109; refine (hcx.out _ hM5.be).mono ?_; rintro e w6 ⟨⟨eA, ecap⟩, rfl, hownE, hB6⟩; have hM6 := hM5.new hB6; have hbs6 := hbs5.below hB6 hbl; have d2 := hbs6.cell 2; simp only [List.getElem?_toArray, List.getElem?_cons_zero, List.getElem?_cons_succ] at d2; have hbl6 := hbs6.lt; have r2 := (hM6.at_ 2 rfl).1; have q2 := (hM6.at_ 2 rfl).2; have hgl6 := hM6.lt.2)
     have hM7 := hM6.put 2 (by simp) (.slice eA m ecap)
     simp only [List.set_cons_zero, List.set_cons_succ] at hM7
     have hbs7 := hbs6.far (p := ⟨g, k * 6 + 2, none⟩) hne' (.slice eA m ecap)
     have hhiE : ∀ b ∈ (Loc.mk eA ecap).fp, BB ≤ b := fun b hb => by
      have := (own_ge (l := ⟨eA, ecap⟩) hownE b hb).1
      omega
     have hlow : ∀ b, (b = g ∨ b ∈ fpS news) → b < BB := fun b hb => by rw [← hBB]; exact hM5.low b hb
     have hown7 : (w6.setCell ⟨g, k * 6 + 2, none⟩ (.slice eA m ecap)).ownsRow w.heap.size 30 6 (.slice eA m ecap) m (cellsL eT yx) := by
      refine own_base (own_only hownE (fp := [g]) ((Only.refl _ _).setCell (.inl (by simp)) _) fun q hq hm => ?_) hM5.be.size
      have h1 := hhiE q ((own_fp ⟨eA, ecap⟩ m q).2 hq)
      have h2 := hlow g (.inl rfl)
      simp at hm
      omega
     have hwB : w.heap.size ≤ BB := by rw [← hBB]; exact hM5.be.size
     have hsB : BB ≤ (w6.setCell ⟨g, k * 6 + 2, none⟩ (.slice eA m ecap)).heap.size := by have := hB6.size; simp; omega
     have hbsB : bs < BB := by omega
     generalize w6.setCell ⟨g, k * 6 + 2, none⟩ (.slice eA m ecap) = W7 at *
     clear hbs5 hM5 hM6 hbs6 hownE hB6 d2 r2 q2 hgl6 hbl6 c2 hbl hcx
     clear w6
     replace hlow := Lib.hid hlow
     replace hhiE := Lib.hid hhiE
     replace hBB := Lib.hid hBB
     replace hN := Lib.hid hN
     go_loopw [45] (fun i wx => ∃ (j : Nat) (newsE : List (Ex Loc)), i = .int .i64 j ∧ NEx w id yx eA ecap m BB W7 j newsE wx) (fun i _ => m - (intOf i).toNat)
     case atStart =>
      refine ⟨0, [], rfl, Nat.zero_le _, rfl, rfl, hown7, trivial, ?_, fun b hb => hhiE.out b (by simpa [fps] using hb), Below.refl _ _⟩
      simp only [fps, List.append_nil]
      unfold Loc.fp
      cases eA <;> simp
     case round =>
      clear hown7
      obtain ⟨j, newsE, rfl, hE⟩ := hrel
      have j0 : 0 ≤ (j : Int) := by omega
      have hjm := hE.kn
      by_cases hlj : j < m
      ·have hv : yx[j]? = some (yx[j]'(by have := hm'.out; omega)) := List.getElem?_eq_getElem (by have := hm'.out; omega)
       generalize yx[j]'(by have := hm'.out; omega) = v at hv
       have hdrop : yx.drop j = v :: yx.drop (j + 1) := by
        obtain ⟨h1, h2⟩ := List.getElem?_eq_some_iff.1 hv
        rw [List.drop_eq_getElem_cons h1, h2]
       have hrow := hE.row
       rw [hdrop] at hrow
       obtain ⟨g2, cap2, hvv, _, hglt2⟩ := hrow.form (by omega)
       injection hvv with hvv _ hcp
       subst hvv
       subst hcp
       have hcall := fun w2 (h2 : Below w.heap.size w w2) => hc1.out w2 h2 v (List.mem_of_getElem? hv)
       have htv : rens id (yx.take (j + 1)) = rens id (yx.take j) ++ [v.ren id] := by
        obtain ⟨h1, h2⟩ := List.getElem?_eq_some_iff.1 hv
        rw [rens_map, rens_map, List.take_succ_eq_append_getElem h1, h2, List.map_append]; rfl
       have hMbe := hM7.be.trans (hE.be.mono hwB)
       obtain ⟨ad, hA, _, _, _, hcells⟩ := (hpx'.out.all (keeps_below hMbe)).at hv
       dsimp only at hA
       subst hA
       obtain ⟨⟨vk, vo, vv, vw, vn⟩, ⟨vA, vc⟩, vs⟩ := v
       obtain ⟨r0, r1, r2, r3, r4, r5⟩ := CellsAt.c6 hcells
       simp only [eT] at r0 r1 r2 r3 r4 r5
       have hab := cell_lt r0
       have hpre : (cellsL eT newsE).length = j * 6 := by rw [cellsL_len, hE.len]
       have hxs : cellsL eT (newsE ++ Ex.mk ⟨vk, vo, vv, vw, vn⟩ ⟨vA, vc⟩ vs :: yx.drop (j + 1)) = cellsL eT newsE ++ .int .u8 vk :: .int .u8 vo :: .int .u32 vv :: .int .i64 vw :: .string vn :: .slice vA vs.length vc :: cellsL eT (yx.drop (j + 1)) := by rw [cellsL_append]; rfl
       rw [hxs] at hrow
       have hcallE : ∀ w2, Below w.heap.size w w2 → Calls Tryz.prog 82 #[.agg #[.int .u8 vk, .int .u8 vo, .int .u32 vv, .int .i64 vw, .string vn, .slice vA vs.length vc], .func (.func 83) #[] #[]] w2 fun r w' =>
         ∃ zk zo zv zw zn zA zc zs, r = .returned (.agg #[.int .u8 zk, .int .u8 zo, .int .u32 zv, .int .i64 zw, .string zn, .slice zA (zs : List (Ex Loc)).length zc]) ∧ (Ex.mk ⟨zk, zo, zv, zw, zn⟩ (⟨zA, zc⟩ : Loc) zs).plain = Ex.ren id (Ex.mk ⟨vk, vo, vv, vw, vn⟩ (⟨vA, vc⟩ : Loc) vs) ∧ (Ex.mk ⟨zk, zo, zv, zw, zn⟩ ⟨zA, zc⟩ zs).own eT w' w2.heap.size ∧ (Ex.mk ⟨zk, zo, zv, zw, zn⟩ ⟨zA, zc⟩ zs).fp.Nodup ∧ Below w2.heap.size w2 w' := fun w2 h2 =>
        (hcall w2 h2).mono fun r w' ⟨L, h1, h2, h3, h4, h5⟩ => by
         obtain ⟨⟨zk, zo, zv, zw, zn⟩, ⟨zA, zc⟩, zs⟩ := L
         exact ⟨zk, zo, zv, zw, zn, zA, zc, zs, h1, h2, h3, h4, h5⟩
       have hv' := Lib.hid hv
       have htv' := Lib.hid htv
       have hpre' := Lib.hid hpre
       replace hcallE := Lib.hid hcallE
       clear hv hdrop htv hpre hxs hcall hcells
       have l1 : (j : Int) < (m : Int) := by omega
       have hBy := (Below.refl _ wr).alloc (Nat.le_refl _) (.cells #[.int .u8 vk, .int .u8 vo, .int .u32 vv, .int .i64 vw, .string vn, .slice vA vs.length vc] 30)
       have hbe := Blk.new wr 30 #[.int .u8 vk, .int .u8 vo, .int .u32 vv, .int .i64 vw, .string vn, .slice vA vs.length vc]
       have hM := hM7.same (fun b hb => hE.be.block b (hlow.out b hb)) (hM7.be.trans (hE.be.mono hwB))
       have hMy := hM.new hBy
       have hsx := hE.be.size
       have hsBx : BB ≤ wr.heap.size := by omega
       go_upto_region 11 with (fail)
       generalize wr.alloc (.cells #[.int .u8 vk, .int .u8 vo, .int .u32 vv, .int .i64 vw, .string vn, .slice vA vs.length vc] 30) = Wy at *
       obtain ⟨be, hbee⟩ : ∃ be, wr.heap.size = be := ⟨_, rfl⟩
       rw [hbee] at hbe ⊢
       have hBw : Below w.heap.size w Wy := hMy.be
       have hrowy := own_only hrow (only_of_below [] hBy) (by simp)
       have hownsy : owns eT Wy w.heap.size newsE := owns_keep (only_of_below [] hBy) hE.own (by simp)
       have hbel := hbe.lt
       have hg2 : g2 < be := by omega
       have hg2B : BB ≤ g2 := hE.hi g2 (by simp [Loc.fp])
       replace hbee := Lib.hid hbee
       have hgg : g < BB := hlow.out g (.inl rfl)
       have hBEB : BB ≤ be := by have := hbee.out; omega
       clear r0 r1 r2 r3 r4 r5 hrow
       obtain ⟨S, hSi, hSe⟩ : ∃ S : World → Prop, (∀ W, (W.cell? ⟨g, k * 6 + 2, none⟩ = some (.slice (some ⟨g2, 0, none⟩) m ecap) ∧ W.cell? ⟨be, 0, none⟩ = some (.int .u8 vk) ∧ W.cell? ⟨be, 1, none⟩ = some (.int .u8 vo) ∧ W.cell? ⟨be, 2, none⟩ = some (.int .u32 vv) ∧ W.cell? ⟨be, 3, none⟩ = some (.int .i64 vw) ∧ W.cell? ⟨be, 4, none⟩ = some (.string vn) ∧ W.cell? ⟨be, 5, none⟩ = some (.slice vA vs.length vc)) → S W) ∧ (∀ W, S W → (W.cell? ⟨g, k * 6 + 2, none⟩ = some (.slice (some ⟨g2, 0, none⟩) m ecap) ∧ W.cell? ⟨be, 0, none⟩ = some (.int .u8 vk) ∧ W.cell? ⟨be, 1, none⟩ = some (.int .u8 vo) ∧ W.cell? ⟨be, 2, none⟩ = some (.int .u32 vv) ∧ W.cell? ⟨be, 3, none⟩ = some (.int .i64 vw) ∧ W.cell? ⟨be, 4, none⟩ = some (.string vn) ∧ W.cell? ⟨be, 5, none⟩ = some (.slice vA vs.length vc))) := ⟨fun W => W.cell? ⟨g, k * 6 + 2, none⟩ = some (.slice (some ⟨g2, 0, none⟩) m ecap) ∧ W.cell? ⟨be, 0, none⟩ = some (.int .u8 vk) ∧ W.cell? ⟨be, 1, none⟩ = some (.int .u8 vo) ∧ W.cell? ⟨be, 2, none⟩ = some (.int .u32 vv) ∧ W.cell? ⟨be, 3, none⟩ = some (.int .i64 vw) ∧ W.cell? ⟨be, 4, none⟩ = some (.string vn) ∧ W.cell? ⟨be, 5, none⟩ = some (.slice vA vs.length vc), fun _ h => h, fun _ h => h⟩
       have hS : S Wy.drew := hSi _ ⟨(hMy.at_ 2 rfl).1, hbe.cell 0, hbe.cell 1, hbe.cell 2, hbe.cell 3, hbe.cell 4, hbe.cell 5⟩
       replace hSi := Lib.hid hSi
       replace hSe := Lib.hid hSe
       refine wp_region_held (S := S) (by kernel_rfl) ?_
       change wpAnyH _ _ _ _ _ _ _ _ (World.drew _)
       refine takeH 0 (v := ?_) rfl (by kernel_rfl) (by kernel_rfl) (by kernel_rfl) (fun _ _ _ h => h) (by rfl) hS ?_ ?_
       rotate_left
       ·(intro wz hSw; obtain ⟨z0, z1, z2, z3, z4, z5, z6⟩ := hSe.out _ hSw; go_simp; try with_reducible rfl)
       try simp only [Act.put, List.setIfInBounds_toArray, List.set_cons_zero, List.set_cons_succ]
       refine takeH 1 (v := ?_) rfl (by kernel_rfl) (by kernel_rfl) (by kernel_rfl) (fun _ _ _ h => h) (by rfl) hS ?_ ?_
       rotate_left
       ·(intro wz hSw; obtain ⟨z0, z1, z2, z3, z4, z5, z6⟩ := hSe.out _ hSw; go_simp; try with_reducible rfl)
       try simp only [Act.put, List.setIfInBounds_toArray, List.set_cons_zero, List.set_cons_succ]
       refine takeH 2 (v := .pointer (some ⟨g, k * 6, none⟩)) rfl (by kernel_rfl) (by kernel_rfl) (by kernel_rfl) (fun _ _ _ h => h) (by rfl) hS ?_ ?_
       ·(intro wz hSw; obtain ⟨z0, z1, z2, z3, z4, z5, z6⟩ := hSe.out _ hSw; go_simp)
       try simp only [Act.put, List.setIfInBounds_toArray, List.set_cons_zero, List.set_cons_succ]
       refine takeH 3 (v := .pointer (some ⟨g, k * 6 + 2, none⟩)) rfl (by kernel_rfl) (by kernel_rfl) (by kernel_rfl) (fun _ _ _ h => h) (by rfl) hS ?_ ?_
       ·(intro wz hSw; obtain ⟨z0, z1, z2, z3, z4, z5, z6⟩ := hSe.out _ hSw; go_simp)
       try simp only [Act.put, List.setIfInBounds_toArray, List.set_cons_zero, List.set_cons_succ]
       refine takeH 4 (v := .slice (some ⟨g2, 0, none⟩) m ecap) rfl (by kernel_rfl) (by kernel_rfl) (by kernel_rfl) (fun _ _ _ h => h) (by rfl) hS ?_ ?_
       ·(intro wz hSw; obtain ⟨z0, z1, z2, z3, z4, z5, z6⟩ := hSe.out _ hSw; go_simp)
       try simp only [Act.put, List.setIfInBounds_toArray, List.set_cons_zero, List.set_cons_succ]
       refine takeH 5 (v := ?_) rfl (by kernel_rfl) (by kernel_rfl) (by kernel_rfl) (fun _ _ _ h => h) (by rfl) hS ?_ ?_
       rotate_left
       ·(intro wz hSw; obtain ⟨z0, z1, z2, z3, z4, z5, z6⟩ := hSe.out _ hSw; go_simp; try with_reducible rfl)
       try simp only [Act.put, List.setIfInBounds_toArray, List.set_cons_zero, List.set_cons_succ]
       refine takeH 6 (v := .agg #[.int .u8 vk, .int .u8 vo, .int .u32 vv, .int .i64 vw, .string vn, .slice vA vs.length vc]) rfl (by kernel_rfl) (by kernel_rfl) (by kernel_rfl) (fun _ _ _ h => h) (by rfl) hS ?_ ?_
       ·(intro wz hSw; obtain ⟨z0, z1, z2, z3, z4, z5, z6⟩ := hSe.out _ hSw; go_simp)
       try simp only [Act.put, List.setIfInBounds_toArray, List.set_cons_zero, List.set_cons_succ]
       refine takeH 7 (v := ?_) rfl (by kernel_rfl) (by kernel_rfl) (by kernel_rfl) (fun _ _ _ h => h) (by rfl) hS ?_ ?_
       rotate_left
       ·(intro wz hSw; obtain ⟨z0, z1, z2, z3, z4, z5, z6⟩ := hSe.out _ hSw; go_simp; try with_reducible rfl)
       try simp only [Act.put, List.setIfInBounds_toArray, List.set_cons_zero, List.set_cons_succ]
       refine callH 8 rfl (by kernel_rfl) (fun K hK => ?_)
       go_simp
       go_wp2_with (go_at_call 82; refine (hcallE.out Wy.drew hBw.drew).mono ?_; rintro e w5 ⟨zk, zo, zv, zw, zn, zA, zc, zs, rfl, hLp, hLo, hLn, hB5'⟩)
       have hB5 := below_undrew hB5'
       have hM5 := hMy.new hB5
       have hbe5 := hbe.below hB5 hbel
       have hrow5 := own_only hrowy (only_of_below [] hB5) (by simp)
       have hth := there_six hrow5 hpre'.out
       refine hK.out _ _ (hSi.out _ ⟨(hM5.at_ 2 rfl).1, hbe5.cell 0, hbe5.cell 1, hbe5.cell 2, hbe5.cell 3, hbe5.cell 4, hbe5.cell 5⟩) (fun hSn => ?_)
       clear hK K hS
       have hS := hSn
       clear hSn
       refine takeH 9 (v := .pointer (some ⟨g2, j * 6, none⟩)) rfl (by kernel_rfl) (by kernel_rfl) (by kernel_rfl) (fun _ _ _ h => h) (by rfl) hS ?_ ?_
       ·(intro wz hSw; obtain ⟨z0, z1, z2, z3, z4, z5, z6⟩ := hSe.out _ hSw; go_simp)
       try simp only [Act.put, List.setIfInBounds_toArray, List.set_cons_zero, List.set_cons_succ]
       have hgo : Only [g2] w5 ((((((w5.setCell ⟨g2, j * 6, none⟩ (.int .u8 zk)).setCell ⟨g2, j * 6 + 1, none⟩ (.int .u8 zo)).setCell ⟨g2, j * 6 + 2, none⟩ (.int .u32 zv)).setCell ⟨g2, j * 6 + 3, none⟩ (.int .i64 zw)).setCell ⟨g2, j * 6 + 4, none⟩ (.string zn)).setCell ⟨g2, j * 6 + 5, none⟩ (.slice zA zs.length zc)) := Only.six (Only.refl _ _) (.inl (by simp)) _ _ _ _ _ _
       have hrow6 := own_put6 hrow5 hpre'.out (.int .u8 zk) (.int .u8 zo) (.int .u32 zv) (.int .i64 zw) (.string zn) (.slice zA zs.length zc)
       have hl5 : ∀ b, (b = g ∨ b ∈ fpS news) → b ≠ g2 := fun b hb e => by have := hlow.out b hb; omega
       have hM6 := hM5.same (wr' := ((((((w5.setCell ⟨g2, j * 6, none⟩ (.int .u8 zk)).setCell ⟨g2, j * 6 + 1, none⟩ (.int .u8 zo)).setCell ⟨g2, j * 6 + 2, none⟩ (.int .u32 zv)).setCell ⟨g2, j * 6 + 3, none⟩ (.int .i64 zw)).setCell ⟨g2, j * 6 + 4, none⟩ (.string zn)).setCell ⟨g2, j * 6 + 5, none⟩ (.slice zA zs.length zc))) (fun b hb => hgo.block b (hM5.low b hb) (by simpa using hl5 b hb)) (hM5.be.trans (hgo.below hM5.be.size (by simp; omega)))
       have hbe6 := hbe5.only hgo (by simp; omega)
       refine callH 10 rfl (by kernel_rfl) (fun K hK => ?_)
       rw [if_pos (by rfl)]
       refine wp_store_six 30 (.tmp 59) (.tmp 58) rfl g2 (j * 6) (.int .u8 zk) (.int .u8 zo) (.int .u32 zv) (.int .i64 zw) (.string zn) (.slice zA zs.length zc) rfl rfl hth (by kernel_rfl) (by simp [Value.oneCell']) ?_
       refine hK.out _ _ (hSi.out _ ⟨(hM6.at_ 2 rfl).1, hbe6.cell 0, hbe6.cell 1, hbe6.cell 2, hbe6.cell 3, hbe6.cell 4, hbe6.cell 5⟩) (fun hSn => ?_)
       clear hK K hS
       have hS := hSn
       clear hSn
       refine wpAnyH_done (by kernel_rfl) ?_ _
       generalize ((((((w5.setCell ⟨g2, j * 6, none⟩ (.int .u8 zk)).setCell ⟨g2, j * 6 + 1, none⟩ (.int .u8 zo)).setCell ⟨g2, j * 6 + 2, none⟩ (.int .u32 zv)).setCell ⟨g2, j * 6 + 3, none⟩ (.int .i64 zw)).setCell ⟨g2, j * 6 + 4, none⟩ (.string zn)).setCell ⟨g2, j * 6 + 5, none⟩ (.slice zA zs.length zc)) = w6 at *
       clear hS hSi hSe
       clear S
       have hLge := hLo.ge
       have hWyB : BB ≤ Wy.heap.size := by omega
       have hL6 : (Ex.mk ⟨zk, zo, zv, zw, zn⟩ ⟨zA, zc⟩ zs).own eT w6 w.heap.size := by
        refine (hLo.keep hgo fun q hq hm => ?_).base_le (Nat.le_trans hBw.size (Nat.le_refl _))
        have h1 : Wy.heap.size ≤ q := (hLge q hq).1
        simp only [List.mem_singleton] at hm
        omega
       have hns6 : owns eT w6 w.heap.size newsE := owns_keep hgo (owns_keep (only_of_below [] hB5) hownsy (by simp)) fun q hq hm => by
        simp only [List.mem_singleton] at hm
        subst hm
        exact (List.nodup_append.1 hE.nd).2.2 q (by simp [Loc.fp]) q hq rfl
       have hB6 : Below BB W7 w6 := ((hE.be.trans (hBy.mono hsBx)).trans (hB5.mono hWyB)).trans (hgo.below (by have := hB5.size; omega) (by simp; omega))
       have hE6 : NEx w id yx (some ⟨g2, 0, none⟩) ecap m BB W7 (j + 1) (newsE ++ [Ex.mk ⟨zk, zo, zv, zw, zn⟩ ⟨zA, zc⟩ zs]) w6 := by
        refine ⟨by omega, by rw [List.length_append, hE.len]; rfl, ?_, ?_, ?_, ?_, ?_, hB6⟩
        ·have h1 := hE.pl
         rw [plains_map] at h1 ⊢
         rw [htv'.out, List.map_append, h1, List.map_cons, List.map_nil, hLp]
        ·rw [List.append_assoc, cellsL_append]
         exact hrow6
        ·exact owns_iff.2 fun y hy => by
          rcases List.mem_append.1 hy with hy | hy
          ·exact owns_iff.1 hns6 y hy
          ·rw [List.mem_singleton] at hy; rw [hy]; exact hL6
        ·rw [fps_append, ← List.append_assoc]
         refine nodup_at hE.nd (by simpa [fps] using hLn) (B := Wy.heap.size) (fun b hb => ?_) (fun b hb => (hLge b (by simpa [fps] using hb)).1)
         rcases List.mem_append.1 hb with hb | hb
         ·simp [Loc.fp] at hb; omega
         ·exact (owns_ge hownsy b hb).2
        ·intro b hb
         rw [fps_append, ← List.append_assoc] at hb
         rcases List.mem_append.1 hb with hb | hb
         ·exact hE.hi b hb
         ·exact Nat.le_trans hWyB (hLge b (by simpa [fps] using hb)).1
       replace hE6 := Lib.hid hE6
       clear hgo hLge hM6 hM5 hL6 hns6 hB6 hrow6 hrow5 hth hM hMy
       go_wp2_with fail
       go_roundw
       case rel => exact ⟨j + 1, _, by go_num, hE6.out⟩
       case measure => simp [intOf]; omega
      ·obtain rfl : j = m := by omega
       have hdr : yx.drop j = [] := List.drop_eq_nil_of_le (by have := hm'.out; omega)
       have htx : yx.take j = yx := List.take_of_length_le (by have := hm'.out; omega)
       have hrowE := hE.row
       rw [hdr, List.append_nil] at hrowE
       have hplE := hE.pl
       rw [htx] at hplE
       have hlE := hE.len
       have hM8 := hM7.same (fun b hb => hE.be.block b (hlow.out b hb)) (hM7.be.trans (hE.be.mono hwB))
       have hbs8 : Blk wr bs 40 #[.int .u8 yk, .string yn, .slice aA j ac, .int .i64 yb, .slice bA yt.length bc, .slice cA ye.length cc] := (hE.be.block bs hbsB).trans hbs7
       have hownE := hE.own
       have hndE := hE.nd
       have hhi8 := hE.hi
       have hBE : BB ≤ wr.heap.size := by have := hE.be.size; omega
       clear hE hM7 hbs7 hdr htx hsB
       rename_i W7x _ _
       replace hplE := Lib.hid hplE
       replace hlE := Lib.hid hlE
       replace hhi8 := Lib.hid hhi8
       have hBw8 : Below w.heap.size w wr := hM8.be
       have hbl8 := hbs8.lt
       go_upto_region 13 with (fail)
       obtain ⟨S, hSi, hSe⟩ : ∃ S : World → Prop, (∀ W, (W.cell? ⟨bs, 4, none⟩ = some (.slice bA yt.length bc) ∧ W.cell? ⟨bs, 5, none⟩ = some (.slice cA ye.length cc)) → S W) ∧ (∀ W, S W → (W.cell? ⟨bs, 4, none⟩ = some (.slice bA yt.length bc) ∧ W.cell? ⟨bs, 5, none⟩ = some (.slice cA ye.length cc))) := ⟨fun W => W.cell? ⟨bs, 4, none⟩ = some (.slice bA yt.length bc) ∧ W.cell? ⟨bs, 5, none⟩ = some (.slice cA ye.length cc), fun _ h => h, fun _ h => h⟩
       have hS : S wr.drew := hSi _ ⟨hbs8.cell 4, hbs8.cell 5⟩
       replace hSi := Lib.hid hSi
       replace hSe := Lib.hid hSe
       refine wp_region_held (S := S) (by kernel_rfl) ?_
       change wpAnyH _ _ _ _ _ _ _ _ (World.drew _)
       refine takeH 0 (v := ?_) rfl (by kernel_rfl) (by kernel_rfl) (by kernel_rfl) (fun _ _ _ h => h) (by rfl) hS ?_ ?_
       rotate_left
       ·(intro wz hSw; obtain ⟨z0, z1⟩ := hSe.out _ hSw; go_simp; try with_reducible rfl)
       try simp only [Act.put, List.setIfInBounds_toArray, List.set_cons_zero, List.set_cons_succ]
       refine takeH 1 (v := ?_) rfl (by kernel_rfl) (by kernel_rfl) (by kernel_rfl) (fun _ _ _ h => h) (by rfl) hS ?_ ?_
       rotate_left
       ·(intro wz hSw; obtain ⟨z0, z1⟩ := hSe.out _ hSw; go_simp; try with_reducible rfl)
       try simp only [Act.put, List.setIfInBounds_toArray, List.set_cons_zero, List.set_cons_succ]
       refine takeH 2 (v := ?_) rfl (by kernel_rfl) (by kernel_rfl) (by kernel_rfl) (fun _ _ _ h => h) (by rfl) hS ?_ ?_
       rotate_left
       ·(intro wz hSw; obtain ⟨z0, z1⟩ := hSe.out _ hSw; go_simp; try with_reducible rfl)
       try simp only [Act.put, List.setIfInBounds_toArray, List.set_cons_zero, List.set_cons_succ]
       refine takeH 3 (v := ?_) rfl (by kernel_rfl) (by kernel_rfl) (by kernel_rfl) (fun _ _ _ h => h) (by rfl) hS ?_ ?_
       rotate_left
       ·(intro wz hSw; obtain ⟨z0, z1⟩ := hSe.out _ hSw; go_simp; try with_reducible rfl)
       try simp only [Act.put, List.setIfInBounds_toArray, List.set_cons_zero, List.set_cons_succ]
       refine takeH 4 (v := ?_) rfl (by kernel_rfl) (by kernel_rfl) (by kernel_rfl) (fun _ _ _ h => h) (by rfl) hS ?_ ?_
       rotate_left
       ·(intro wz hSw; obtain ⟨z0, z1⟩ := hSe.out _ hSw; go_simp; try with_reducible rfl)
       try simp only [Act.put, List.setIfInBounds_toArray, List.set_cons_zero, List.set_cons_succ]
       refine takeH 5 (v := .slice bA yt.length bc) rfl (by kernel_rfl) (by kernel_rfl) (by kernel_rfl) (fun _ _ _ h => h) (by rfl) hS ?_ ?_
       ·(intro wz hSw; obtain ⟨z0, z1⟩ := hSe.out _ hSw; go_simp)
       try simp only [Act.put, List.setIfInBounds_toArray, List.set_cons_zero, List.set_cons_succ]
       refine takeH 6 (v := ?_) rfl (by kernel_rfl) (by kernel_rfl) (by kernel_rfl) (fun _ _ _ h => h) (by rfl) hS ?_ ?_
       rotate_left
       ·(intro wz hSw; obtain ⟨z0, z1⟩ := hSe.out _ hSw; go_simp; try with_reducible rfl)
       try simp only [Act.put, List.setIfInBounds_toArray, List.set_cons_zero, List.set_cons_succ]
       refine takeH 8 (v := ?_) rfl (by kernel_rfl) (by kernel_rfl) (by kernel_rfl) (fun _ _ _ h => h) (by rfl) hS ?_ ?_
       rotate_left
       ·(intro wz hSw; obtain ⟨z0, z1⟩ := hSe.out _ hSw; go_simp; try with_reducible rfl)
       try simp only [Act.put, List.setIfInBounds_toArray, List.set_cons_zero, List.set_cons_succ]
       refine takeH 9 (v := .slice cA ye.length cc) rfl (by kernel_rfl) (by kernel_rfl) (by kernel_rfl) (fun _ _ _ h => h) (by rfl) hS ?_ ?_
       ·(intro wz hSw; obtain ⟨z0, z1⟩ := hSe.out _ hSw; go_simp)
       try simp only [Act.put, List.setIfInBounds_toArray, List.set_cons_zero, List.set_cons_succ]
       refine takeH 10 (v := ?_) rfl (by kernel_rfl) (by kernel_rfl) (by kernel_rfl) (fun _ _ _ h => h) (by rfl) hS ?_ ?_
       rotate_left
       ·(intro wz hSw; obtain ⟨z0, z1⟩ := hSe.out _ hSw; go_simp; try with_reducible rfl)
       try simp only [Act.put, List.setIfInBounds_toArray, List.set_cons_zero, List.set_cons_succ]
       refine callH 7 rfl (by kernel_rfl) (fun K hK => ?_)
       go_simp
       go_wp2_with (go_at_call 88; refine (hc2.out wr.drew hBw8.drew).mono ?_; rintro e w9 ⟨tA, tc, newsT, rfl, hTl, hTp, hTo, hTn, hB9'⟩)
       have hB9 := below_undrew hB9'
       have hM9 := hM8.new hB9
       have hbs9 := hbs8.below hB9 hbl8
       refine hK.out _ _ (hSi.out _ ⟨hbs9.cell 4, hbs9.cell 5⟩) (fun hSn => ?_)
       clear hK K hS
       have hS := hSn
       clear hSn
       refine callH 11 rfl (by kernel_rfl) (fun K hK => ?_)
       go_simp
       go_wp2_with (go_at_call 88; refine (hc3.out w9 hM9.be).mono ?_; rintro e w10 ⟨uA, uc, newsU, rfl, hUl, hUp, hUo, hUn, hB10⟩)
       have hM10 := hM9.new hB10
       have hbs10 := hbs9.below hB10 hbs9.lt
       refine hK.out _ _ (hSi.out _ ⟨hbs10.cell 4, hbs10.cell 5⟩) (fun hSn => ?_)
       clear hK K hS
       have hS := hSn
       clear hSn
       refine takeH 12 (v := .pointer (some ⟨g, k * 6, none⟩)) rfl (by kernel_rfl) (by kernel_rfl) (by kernel_rfl) (fun _ _ _ h => h) (by rfl) hS ?_ ?_
       ·(intro wz hSw; obtain ⟨z0, z1⟩ := hSe.out _ hSw; go_simp)
       try simp only [Act.put, List.setIfInBounds_toArray, List.set_cons_zero, List.set_cons_succ]
       refine takeH 13 (v := .pointer (some ⟨g, k * 6 + 4, none⟩)) rfl (by kernel_rfl) (by kernel_rfl) (by kernel_rfl) (fun _ _ _ h => h) (by rfl) hS ?_ ?_
       ·(intro wz hSw; obtain ⟨z0, z1⟩ := hSe.out _ hSw; go_simp)
       try simp only [Act.put, List.setIfInBounds_toArray, List.set_cons_zero, List.set_cons_succ]
       obtain ⟨r4, q4⟩ := hM10.at_ 4 rfl
       have hgl10 := hM10.lt.2
       have hM11 := hM10.put 4 (by simp) (.slice tA yt.length tc)
       have hbs11 := hbs10.far (p := ⟨g, k * 6 + 4, none⟩) hne' (.slice tA yt.length tc)
       simp only [List.set_cons_zero, List.set_cons_succ] at hM11
       refine callH 14 rfl (by kernel_rfl) (fun K hK => ?_)
       go_simp
       go_wp2_with fail
       refine hK.out _ _ (hSi.out _ ⟨hbs11.cell 4, hbs11.cell 5⟩) (fun hSn => ?_)
       clear hK K hS
       have hS := hSn
       clear hSn
       refine takeH 15 (v := .pointer (some ⟨g, k * 6, none⟩)) rfl (by kernel_rfl) (by kernel_rfl) (by kernel_rfl) (fun _ _ _ h => h) (by rfl) hS ?_ ?_
       ·(intro wz hSw; obtain ⟨z0, z1⟩ := hSe.out _ hSw; go_simp)
       try simp only [Act.put, List.setIfInBounds_toArray, List.set_cons_zero, List.set_cons_succ]
       refine takeH 16 (v := .pointer (some ⟨g, k * 6 + 5, none⟩)) rfl (by kernel_rfl) (by kernel_rfl) (by kernel_rfl) (fun _ _ _ h => h) (by rfl) hS ?_ ?_
       ·(intro wz hSw; obtain ⟨z0, z1⟩ := hSe.out _ hSw; go_simp)
       try simp only [Act.put, List.setIfInBounds_toArray, List.set_cons_zero, List.set_cons_succ]
       clear r4 q4
       obtain ⟨r5, q5⟩ := hM11.at_ 5 rfl
       have hgl11 := hM11.lt.2
       have hM12 := hM11.put 5 (by simp) (.slice uA ye.length uc)
       have hbs12 := hbs11.far (p := ⟨g, k * 6 + 5, none⟩) hne' (.slice uA ye.length uc)
       simp only [List.set_cons_zero, List.set_cons_succ] at hM12
       refine callH 17 rfl (by kernel_rfl) (fun K hK => ?_)
       go_simp
       go_wp2_with fail
       refine hK.out _ _ (hSi.out _ ⟨hbs12.cell 4, hbs12.cell 5⟩) (fun hSn => ?_)
       clear hK K hS
       have hS := hSn
       clear hSn
       refine wpAnyH_done (by kernel_rfl) ?_ _
       have hgo : Only [g] w10 ((w10.setCell ⟨g, k * 6 + 4, none⟩ (.slice tA yt.length tc)).setCell ⟨g, k * 6 + 5, none⟩ (.slice uA ye.length uc)) := ((Only.refl _ _).setCell (.inl (by simp)) _).setCell (.inl (by simp)) _
       generalize (w10.setCell ⟨g, k * 6 + 4, none⟩ (.slice tA yt.length tc)).setCell ⟨g, k * 6 + 5, none⟩ (.slice uA ye.length uc) = w12 at *
       clear hS hSi hSe r5 q5
       clear S
       have hgB : g < BB := hlow.out g (.inl rfl)
       have hs9 : wr.heap.size ≤ w9.heap.size := hB9.size
       have hs10 := hB10.size
       have hlE' := hlE.out
       have hE8 : Lex.own eT wr w.heap.size ⟨eA, ecap⟩ newsE := ⟨by show World.ownsRow _ _ 30 6 (.slice eA newsE.length ecap) newsE.length _; rw [hlE']; exact hrowE, hownE⟩
       have hEge : ∀ b ∈ Lex.fp ⟨eA, ecap⟩ newsE, BB ≤ b ∧ b < wr.heap.size := fun b hb => ⟨hhi8.out b hb, (hE8.ge b hb).2⟩
       have hTge : ∀ b ∈ Lst.fp ⟨tA, tc⟩ newsT, wr.heap.size ≤ b ∧ b < w9.heap.size := fun b hb => hTo.ge b hb
       have hUge : ∀ b ∈ Lst.fp ⟨uA, uc⟩ newsU, w9.heap.size ≤ b ∧ b < w10.heap.size := fun b hb => hUo.ge b hb
       have hE12 : Lex.own eT w12 w.heap.size ⟨eA, ecap⟩ newsE := ((hE8.keep (only_of_below [] hB9) (by simp)).keep (only_of_below [] hB10) (by simp)).keep hgo (fun b hb hm => by have := (hEge b hb).1; simp at hm; omega)
       have hT12 : Lst.own eT w12 w.heap.size ⟨tA, tc⟩ newsT := ((hTo.keep (only_of_below [] hB10) (by simp)).keep hgo (fun b hb hm => by have := (hTge b hb).1; simp at hm; omega)).base_le hBw8.size
       have hU12 : Lst.own eT w12 w.heap.size ⟨uA, uc⟩ newsU := (hUo.keep hgo (fun b hb hm => by have := (hUge b hb).1; simp at hm; omega)).base_le hM9.be.size
       have hXe : (SHd.mk yk nm' yb) = (SHd.mk yk yn yb).ren id := by
        rw [hnm'.out, hh'.out]; unfold SHd.ren; split <;> rfl
       have hNo := hN.out
       have hfin : NSt w id ls (some ⟨g, 0, none⟩) lcap n (k + 1) (news ++ [St.mk ⟨yk, nm', yb⟩ ⟨eA, ecap⟩ ⟨tA, tc⟩ ⟨uA, uc⟩ newsE newsT newsU]) w12 := by
        refine ⟨by omega, by rw [List.length_append, hNo.len]; rfl, ?_, ?_, ?_, ?_, hM12.be⟩
        ·have h1 := hNo.pl
         rw [plainS_map] at h1 ⊢
         rw [htk'.out, List.map_append, h1, List.map_cons, List.map_nil]
         simp only [St.plain, St.ren, hplE.out, hTp, hUp, hXe]
        ·rw [List.append_assoc, cellsS_append]
         show World.ownsRow _ _ 40 6 _ n (cellsS eT news ++ ([.int .u8 yk, .string nm', .slice eA newsE.length ecap, .int .i64 yb, .slice tA newsT.length tc, .slice uA newsU.length uc] ++ cellsS eT (ls.drop (k + 1))))
         rw [hlE', hTl, hUl]
         exact hM12.row
        ·exact ownS_iff.2 fun y hy => by
          rcases List.mem_append.1 hy with hy | hy
          ·exact ownS_iff.1 hM12.own y hy
          ·rw [List.mem_singleton] at hy; rw [hy]; exact ⟨hE12, hT12, hU12⟩
        ·rw [fpS_append, ← List.append_assoc]
         have hfx : fpS [St.mk ⟨yk, nm', yb⟩ ⟨eA, ecap⟩ ⟨tA, tc⟩ ⟨uA, uc⟩ newsE newsT newsU] = Lex.fp ⟨eA, ecap⟩ newsE ++ (Lst.fp ⟨tA, tc⟩ newsT ++ Lst.fp ⟨uA, uc⟩ newsU) := by simp [fpS, St.fp, Lex.fp, Lst.fp]
         rw [hfx]
         refine nodup_at hNo.nd (nodup_at hndE (nodup_at hTn hUn (B := w9.heap.size) (fun b hb => (hTge b hb).2) (fun b hb => (hUge b hb).1)) (B := wr.heap.size) (fun b hb => (hEge b hb).2) (fun b hb => ?_)) (B := BB) (fun b hb => ?_) (fun b hb => ?_)
         ·rcases List.mem_append.1 hb with hb | hb
          ·exact (hTge b hb).1
          ·have := (hUge b hb).1; omega
         ·rcases List.mem_append.1 hb with hb | hb
          ·exact hlow.out b (.inl (by simpa [Loc.fp] using hb))
          ·exact hlow.out b (.inr hb)
         ·rcases List.mem_append.1 hb with hb | hb
          ·exact (hEge b hb).1
          ·rcases List.mem_append.1 hb with hb | hb
           ·have := (hTge b hb).1; omega
           ·have := (hUge b hb).1; omega
       replace hfin := Lib.hid hfin
       clear hEge hTge hUge hE12 hT12 hU12 hE8 hgo hM8 hM9 hM10 hM11 hM12 hTo hUo hTn hUn hTl hUl hTp hUp hlE' hXe hNo
       go_wp2_with fail
       go_roundw
       case rel => exact ⟨k + 1, _, by go_num, hfin.out⟩
       case measure => simp [intOf]; omega
  ·obtain rfl : k = n := by omega
   have hdr : ls.drop k = [] := List.drop_eq_nil_of_le (by have := hn'.out; omega)
   have htk : ls.take k = ls := List.take_of_length_le (by have := hn'.out; omega)
   have hrow := hN.row
   have hpl := hN.pl
   have hnl := hN.len
   rw [hdr, List.append_nil] at hrow
   rw [htk] at hpl
   replace hpl := Lib.hid hpl
   replace hnl := Lib.hid hnl
   replace hdr := Lib.hid hdr
   replace htk := Lib.hid htk
   go_wp2
   go_ret
   have hnk : news.length = k := hnl.out
   exact ⟨lA, lcap, news, rfl, by rw [hnk], hpl.out, ⟨by show World.ownsRow _ _ 40 6 (.slice lA news.length lcap) news.length _; rw [hnk]; exact hrow, hN.own⟩, hN.nd, hN.be⟩
set_option maxRecDepth 100000 in
theorem namedS_chg (Bf Bt : Nat) (from_ to_ : ByteArray) : ∀ (ls : List (St Loc)) (lc : Loc) (w : World), Lst.ok eT w lc ls → szS ls ≤ 20000 → Blk w Bf 9 #[.string from_] → Blk w Bt 9 #[.string to_] →
  Calls Tryz.prog 88 #[.slice lc.A ls.length lc.c, .func (.func 110) #[] #[.pointer (some ⟨Bf, 0, none⟩), .pointer (some ⟨Bt, 0, none⟩)]] w fun r w' => ∃ (tA : Option Addr) (tc : Nat) (news : List (St Loc)), r = .returned (.slice tA ls.length tc) ∧ news.length = ls.length ∧ plainS news = renS (chg from_ to_) ls ∧ Lst.own eT w' w.heap.size ⟨tA, tc⟩ news ∧ (Lst.fp ⟨tA, tc⟩ news).Nodup ∧ Below w.heap.size w w' := by
 intro ls
 induction ls using St.list with
 | h ls ih =>
 intro lc w hok hsz hbf hbt
 have hlen := szS_len ls
 have hcl := cloneStmt lc ls.length (cellsS eT ls) w hok.1 (cellsS_one _ _) (by omega)
 obtain ⟨n, hn⟩ : ∃ n, n = ls.length := ⟨_, rfl⟩
 rw [← hn] at hlen hcl ⊢
 have hn2 : n ≤ 20000 := by omega
 have hn' := Lib.hid hn
 clear hn
 replace hsz := Lib.hid hsz
 replace hlen := Lib.hid hlen
 replace ih := Lib.hid ih
 replace hcl := Lib.hid hcl
 go_enter Tryz.func88, Tryz.ntmps88
 go_wp2_with (go_at_call 111; refine hcl.out.mono ?_; rintro e w1 ⟨⟨lA, lcap⟩, rfl, hown, hB1⟩)
 go_loopw [14] (fun i wr => ∃ (k : Nat) (news : List (St Loc)), i = .int .i64 k ∧ NSt w (chg from_ to_) ls lA lcap n k news wr) (fun i _ => n - (intOf i).toNat)
 case atStart =>
  refine ⟨0, [], rfl, Nat.zero_le _, rfl, rfl, hown, trivial, ?_, hB1⟩
  simp only [fpS, List.append_nil]
  unfold Loc.fp
  cases lA <;> simp
 case round =>
  clear hown hB1 hcl
  obtain ⟨k, news, rfl, hN⟩ := hrel
  have k0 : 0 ≤ (k : Int) := by omega
  have hkn := hN.kn
  by_cases hlt : k < n
  ·have hx : ls[k]? = some (ls[k]'(by have := hn'.out; omega)) := List.getElem?_eq_getElem (by have := hn'.out; omega)
   generalize ls[k]'(by have := hn'.out; omega) = x at hx
   have hdrop : ls.drop k = x :: ls.drop (k + 1) := by
    obtain ⟨h1, h2⟩ := List.getElem?_eq_some_iff.1 hx
    rw [List.drop_eq_getElem_cons h1, h2]
   have hrow := hN.row
   rw [hdrop] at hrow
   obtain ⟨g, cap, hv, _, hglt⟩ := hrow.form (by omega)
   injection hv with hv _ hcp
   subst hv
   subst hcp
   have hxok := okS_at (hok.2) hx
   have hih := ih.out x (List.mem_of_getElem? hx)
   have hxsz := szS_mem (List.mem_of_getElem? hx)
   have htk : renS (chg from_ to_) (ls.take (k + 1)) = renS (chg from_ to_) (ls.take k) ++ [x.ren (chg from_ to_)] := by
    obtain ⟨h1, h2⟩ := List.getElem?_eq_some_iff.1 hx
    rw [renS_map, renS_map, List.take_succ_eq_append_getElem h1, h2, List.map_append]; rfl
   obtain ⟨⟨yk, yn, yb⟩, ⟨aA, ac⟩, ⟨bA, bc⟩, ⟨cA, cc⟩, yx, yt, ye⟩ := x
   obtain ⟨hpx, hpt, hpe⟩ := hxok.parts
   simp only [St.sz] at hxsz
   simp only [St.th, St.el] at hih
   obtain ⟨m, hm⟩ : ∃ m, m = yx.length := ⟨_, rfl⟩
   have hm2 : m ≤ 20000 := by have := szs_len yx; have := hsz.out; omega
   have hM0 : NMid w news (cellsS eT (ls.drop (k + 1))) g lcap n (k * 6) [.int .u8 yk, .string yn, .slice aA m ac, .int .i64 yb, .slice bA yt.length bc, .slice cA ye.length cc] wr := by
    refine ⟨by rw [cellsS_len, hN.len], fun h => ?_, ?_, hN.own, hN.be⟩
    ·exact (List.nodup_append.1 hN.nd).2.2 g (by simp [Loc.fp]) g h rfl
    ·rw [cellsS_append] at hrow
     rw [hm]; exact hrow
   have r0 := (hM0.at_ 0 rfl).1
   have r1 := (hM0.at_ 1 rfl).1
   have r2 := (hM0.at_ 2 rfl).1
   have r3 := (hM0.at_ 3 rfl).1
   have r4 := (hM0.at_ 4 rfl).1
   have r5 := (hM0.at_ 5 rfl).1
   rw [Nat.add_zero] at r0
   have hc1 : ∀ w2, Below w.heap.size w w2 → ∀ (v : Ex Loc), v ∈ yx → Calls Tryz.prog 82 #[aggX v, .func (.func 110) #[] #[.pointer (some ⟨Bf, 0, none⟩), .pointer (some ⟨Bt, 0, none⟩)]] w2 fun r w' => ∃ L : Ex Loc, r = .returned (aggX L) ∧ L.plain = v.ren (chg from_ to_) ∧ L.own eT w' w2.heap.size ∧ L.fp.Nodup ∧ Below w2.heap.size w2 w' := fun w2 h2 v hv =>
    named_chg Bf Bt from_ to_ v w2 ((oks_iff.1 hpx.2 v hv).below h2) (by have := szs_mem hv; have := hsz.out; omega) (hbf.below h2 hbf.lt) (hbt.below h2 hbt.lt)
   have hc2 := fun w2 (h2 : Below w.heap.size w w2) => hih.1 ⟨bA, bc⟩ w2 (hpt.all (keeps_below h2)) (by have := hsz.out; omega) (hbf.below h2 hbf.lt) (hbt.below h2 hbt.lt)
   have hc3 := fun w2 (h2 : Below w.heap.size w w2) => hih.2 ⟨cA, cc⟩ w2 (hpe.all (keeps_below h2)) (by have := hsz.out; omega) (hbf.below h2 hbf.lt) (hbt.below h2 hbt.lt)
   have hcx := fun w2 (h2 : Below w.heap.size w w2) => cloneExpr ⟨aA, ac⟩ yx.length (cellsL eT yx) w2 (hpx.all (keeps_below h2)).1 (cellsL_one _ _) (by omega)
   rw [← hm] at hcx
   have hmx : (x : Nat) → True := fun _ => trivial
   have hx' := Lib.hid hx
   have htk' := Lib.hid htk
   have hm' := Lib.hid hm
   have hpx' := Lib.hid hpx
   replace hc1 := Lib.hid hc1
   replace hc2 := Lib.hid hc2
   replace hc3 := Lib.hid hc3
   replace hcx := Lib.hid hcx
   clear hmx hx hdrop htk hih hxsz hxok hrow hm hpx hpt hpe
   have k1 : (k : Int) < (n : Int) := by omega
   have hd1 : decide ((k : Int) < (n : Int)) = true := by simp; omega
   have hBx := (Below.refl _ wr).alloc (Nat.le_refl _) (.cells #[.int .u8 yk, .string yn, .slice aA m ac, .int .i64 yb, .slice bA yt.length bc, .slice cA ye.length cc] 40)
   have hbs := Blk.new wr 40 #[.int .u8 yk, .string yn, .slice aA m ac, .int .i64 yb, .slice bA yt.length bc, .slice cA ye.length cc]
   have hM4 := hM0.new hBx
   go_upto_region 5 with (fail)
   generalize wr.alloc (.cells #[.int .u8 yk, .string yn, .slice aA m ac, .int .i64 yb, .slice bA yt.length bc, .slice cA ye.length cc] 40) = W4 at *
   have hgb : g < wr.heap.size := hM0.lt.2
   obtain ⟨bs, hbse⟩ : ∃ bs, wr.heap.size = bs := ⟨_, rfl⟩
   rw [hbse] at hbs hgb ⊢
   replace hbse := Lib.hid hbse
   have hbl := hbs.lt
   have hne : g ≠ bs := by omega
   have hne' : bs ≠ g := by omega
   clear r0 r1 r2 r3 r4 r5
   have c0 := hbs.cell 0
   have c1 := hbs.cell 1
   simp only [List.getElem?_toArray, List.getElem?_cons_zero, List.getElem?_cons_succ] at c0 c1
   obtain ⟨bb, hbb⟩ : ∃ bb : Bool, bb = decide (yk = 1 ∨ yk = 2) := ⟨_, rfl⟩
   replace hbb := Lib.hid hbb
   obtain ⟨h', hh'⟩ : ∃ h', h' = (SHd.mk yk yn yb).ren (chg from_ to_) := ⟨_, rfl⟩
   obtain ⟨nm', hnm'⟩ : ∃ nm', nm' = h'.nm := ⟨_, rfl⟩
   replace hh' := Lib.hid hh'
   replace hnm' := Lib.hid hnm'
   go_cut [26] (fun b26 wx => b26 = .bool bb ∧ wx = W4)
   case first =>
    by_cases h1 : yk = 1
    ·have e : (yk == 1) = true := by simp [h1]
     have hbt : bb = true := by rw [hbb.out]; simp [h1]
     subst hbt
     clear h1
     go_wp2
     go_meet
     exact ⟨rfl, rfl⟩
    ·have e : (yk == 1) = false := by simp [h1]
     by_cases h2 : yk = 2
     ·have e3 : (yk == 2) = true := by simp [h2]
      have hbt : bb = true := by rw [hbb.out]; simp [h2]
      subst hbt
      clear h1 h2
      go_wp2
      go_meet
      exact ⟨rfl, rfl⟩
     ·have e3 : (yk == 2) = false := by simp [h2]
      have hbt : bb = false := by rw [hbb.out]; simp [h1, h2]
      subst hbt
      clear h1 h2
      go_wp2
      go_meet
      exact ⟨rfl, rfl⟩
   case rest =>
    obtain ⟨rfl, hwc⟩ := hcut
    subst hwc
    go_upto_if 26 with (fail)
    go_cut [] (fun wx => NMid w news (cellsS eT (ls.drop (k + 1))) g lcap n (k * 6) [.int .u8 yk, .string nm', .slice aA m ac, .int .i64 yb, .slice bA yt.length bc, .slice cA ye.length cc] wx ∧ Blk wx bs 40 #[.int .u8 yk, .string yn, .slice aA m ac, .int .i64 yb, .slice bA yt.length bc, .slice cA ye.length cc])
    case first =>
     have hfin := hM4.put 1 (by simp) (.string nm')
     have hfb := hbs.far (p := ⟨g, k * 6 + 1, none⟩) hne' (.string nm')
     obtain ⟨r1, q1⟩ := hM4.at_ 1 rfl
     have hgl := hM4.lt.2
     have hcn := hM4.be
     cases bb
     ·have hnm : nm' = yn := by
       rw [hnm'.out, hh'.out]; unfold SHd.ren; rw [if_neg (by simpa using hbb.out.symm)]
      subst hnm
      go_wp2
      go_meet
      exact ⟨hM4, hbs⟩
     ·have hnm : (chg from_ to_) yn = nm' := by
       rw [hnm'.out, hh'.out]; unfold SHd.ren; rw [if_pos (by simpa using hbb.out.symm)]
      replace hnm := Lib.hid hnm
      have hcn := change1_ok Bf Bt from_ to_ yn wc (hbf.below hM4.be hbf.lt) (hbt.below hM4.be hbt.lt)
      replace hcn := Lib.hid hcn
      go_wp2_with (go_at_call 110; refine hcn.out.mono ?_; rintro e w' ⟨rfl, rfl⟩)
      go_meet
      have hnm2 : chg from_ to_ yn = nm' := hnm.out
      subst hnm2
      exact ⟨hfin, hfb⟩
    case rest =>
     obtain ⟨hM5, hbs5⟩ := hcut
     clear c0 c1 hbs hM4 hM0 hbl hBx
     have c2 := hbs5.cell 2
     simp only [List.getElem?_toArray, List.getElem?_cons_zero, List.getElem?_cons_succ] at c2
     have hbl := hbs5.lt
     obtain ⟨BB, hBB⟩ : ∃ BB, wc.heap.size = BB := ⟨_, rfl⟩
     go_wp2_with (go_at_call 109; refine (hcx.out _ hM5.be).mono ?_; rintro e w6 ⟨⟨eA, ecap⟩, rfl, hownE, hB6⟩; have hM6 := hM5.new hB6; have hbs6 := hbs5.below hB6 hbl; have d2 := hbs6.cell 2; simp only [List.getElem?_toArray, List.getElem?_cons_zero, List.getElem?_cons_succ] at d2; have hbl6 := hbs6.lt; have r2 := (hM6.at_ 2 rfl).1; have q2 := (hM6.at_ 2 rfl).2; have hgl6 := hM6.lt.2)
     have hM7 := hM6.put 2 (by simp) (.slice eA m ecap)
     simp only [List.set_cons_zero, List.set_cons_succ] at hM7
     have hbs7 := hbs6.far (p := ⟨g, k * 6 + 2, none⟩) hne' (.slice eA m ecap)
     have hhiE : ∀ b ∈ (Loc.mk eA ecap).fp, BB ≤ b := fun b hb => by
      have := (own_ge (l := ⟨eA, ecap⟩) hownE b hb).1
      omega
     have hlow : ∀ b, (b = g ∨ b ∈ fpS news) → b < BB := fun b hb => by rw [← hBB]; exact hM5.low b hb
     have hown7 : (w6.setCell ⟨g, k * 6 + 2, none⟩ (.slice eA m ecap)).ownsRow w.heap.size 30 6 (.slice eA m ecap) m (cellsL eT yx) := by
      refine own_base (own_only hownE (fp := [g]) ((Only.refl _ _).setCell (.inl (by simp)) _) fun q hq hm => ?_) hM5.be.size
      have h1 := hhiE q ((own_fp ⟨eA, ecap⟩ m q).2 hq)
      have h2 := hlow g (.inl rfl)
      simp at hm
      omega
     have hwB : w.heap.size ≤ BB := by rw [← hBB]; exact hM5.be.size
     have hsB : BB ≤ (w6.setCell ⟨g, k * 6 + 2, none⟩ (.slice eA m ecap)).heap.size := by have := hB6.size; simp; omega
     have hbsB : bs < BB := by omega
     generalize w6.setCell ⟨g, k * 6 + 2, none⟩ (.slice eA m ecap) = W7 at *
     clear hbs5 hM5 hM6 hbs6 hownE hB6 d2 r2 q2 hgl6 hbl6 c2 hbl hcx
     clear w6
     replace hlow := Lib.hid hlow
     replace hhiE := Lib.hid hhiE
     replace hBB := Lib.hid hBB
     replace hN := Lib.hid hN
     go_loopw [45] (fun i wx => ∃ (j : Nat) (newsE : List (Ex Loc)), i = .int .i64 j ∧ NEx w (chg from_ to_) yx eA ecap m BB W7 j newsE wx) (fun i _ => m - (intOf i).toNat)
     case atStart =>
      refine ⟨0, [], rfl, Nat.zero_le _, rfl, rfl, hown7, trivial, ?_, fun b hb => hhiE.out b (by simpa [fps] using hb), Below.refl _ _⟩
      simp only [fps, List.append_nil]
      unfold Loc.fp
      cases eA <;> simp
     case round =>
      clear hown7
      obtain ⟨j, newsE, rfl, hE⟩ := hrel
      have j0 : 0 ≤ (j : Int) := by omega
      have hjm := hE.kn
      by_cases hlj : j < m
      ·have hv : yx[j]? = some (yx[j]'(by have := hm'.out; omega)) := List.getElem?_eq_getElem (by have := hm'.out; omega)
       generalize yx[j]'(by have := hm'.out; omega) = v at hv
       have hdrop : yx.drop j = v :: yx.drop (j + 1) := by
        obtain ⟨h1, h2⟩ := List.getElem?_eq_some_iff.1 hv
        rw [List.drop_eq_getElem_cons h1, h2]
       have hrow := hE.row
       rw [hdrop] at hrow
       obtain ⟨g2, cap2, hvv, _, hglt2⟩ := hrow.form (by omega)
       injection hvv with hvv _ hcp
       subst hvv
       subst hcp
       have hcall := fun w2 (h2 : Below w.heap.size w w2) => hc1.out w2 h2 v (List.mem_of_getElem? hv)
       have htv : rens (chg from_ to_) (yx.take (j + 1)) = rens (chg from_ to_) (yx.take j) ++ [v.ren (chg from_ to_)] := by
        obtain ⟨h1, h2⟩ := List.getElem?_eq_some_iff.1 hv
        rw [rens_map, rens_map, List.take_succ_eq_append_getElem h1, h2, List.map_append]; rfl
       have hMbe := hM7.be.trans (hE.be.mono hwB)
       obtain ⟨ad, hA, _, _, _, hcells⟩ := (hpx'.out.all (keeps_below hMbe)).at hv
       dsimp only at hA
       subst hA
       obtain ⟨⟨vk, vo, vv, vw, vn⟩, ⟨vA, vc⟩, vs⟩ := v
       obtain ⟨r0, r1, r2, r3, r4, r5⟩ := CellsAt.c6 hcells
       simp only [eT] at r0 r1 r2 r3 r4 r5
       have hab := cell_lt r0
       have hpre : (cellsL eT newsE).length = j * 6 := by rw [cellsL_len, hE.len]
       have hxs : cellsL eT (newsE ++ Ex.mk ⟨vk, vo, vv, vw, vn⟩ ⟨vA, vc⟩ vs :: yx.drop (j + 1)) = cellsL eT newsE ++ .int .u8 vk :: .int .u8 vo :: .int .u32 vv :: .int .i64 vw :: .string vn :: .slice vA vs.length vc :: cellsL eT (yx.drop (j + 1)) := by rw [cellsL_append]; rfl
       rw [hxs] at hrow
       have hcallE : ∀ w2, Below w.heap.size w w2 → Calls Tryz.prog 82 #[.agg #[.int .u8 vk, .int .u8 vo, .int .u32 vv, .int .i64 vw, .string vn, .slice vA vs.length vc], .func (.func 110) #[] #[.pointer (some ⟨Bf, 0, none⟩), .pointer (some ⟨Bt, 0, none⟩)]] w2 fun r w' =>
         ∃ zk zo zv zw zn zA zc zs, r = .returned (.agg #[.int .u8 zk, .int .u8 zo, .int .u32 zv, .int .i64 zw, .string zn, .slice zA (zs : List (Ex Loc)).length zc]) ∧ (Ex.mk ⟨zk, zo, zv, zw, zn⟩ (⟨zA, zc⟩ : Loc) zs).plain = Ex.ren (chg from_ to_) (Ex.mk ⟨vk, vo, vv, vw, vn⟩ (⟨vA, vc⟩ : Loc) vs) ∧ (Ex.mk ⟨zk, zo, zv, zw, zn⟩ ⟨zA, zc⟩ zs).own eT w' w2.heap.size ∧ (Ex.mk ⟨zk, zo, zv, zw, zn⟩ ⟨zA, zc⟩ zs).fp.Nodup ∧ Below w2.heap.size w2 w' := fun w2 h2 =>
        (hcall w2 h2).mono fun r w' ⟨L, h1, h2, h3, h4, h5⟩ => by
         obtain ⟨⟨zk, zo, zv, zw, zn⟩, ⟨zA, zc⟩, zs⟩ := L
         exact ⟨zk, zo, zv, zw, zn, zA, zc, zs, h1, h2, h3, h4, h5⟩
       have hv' := Lib.hid hv
       have htv' := Lib.hid htv
       have hpre' := Lib.hid hpre
       replace hcallE := Lib.hid hcallE
       clear hv hdrop htv hpre hxs hcall hcells
       have l1 : (j : Int) < (m : Int) := by omega
       have hBy := (Below.refl _ wr).alloc (Nat.le_refl _) (.cells #[.int .u8 vk, .int .u8 vo, .int .u32 vv, .int .i64 vw, .string vn, .slice vA vs.length vc] 30)
       have hbe := Blk.new wr 30 #[.int .u8 vk, .int .u8 vo, .int .u32 vv, .int .i64 vw, .string vn, .slice vA vs.length vc]
       have hM := hM7.same (fun b hb => hE.be.block b (hlow.out b hb)) (hM7.be.trans (hE.be.mono hwB))
       have hMy := hM.new hBy
       have hsx := hE.be.size
       have hsBx : BB ≤ wr.heap.size := by omega
       go_upto_region 11 with (fail)
       generalize wr.alloc (.cells #[.int .u8 vk, .int .u8 vo, .int .u32 vv, .int .i64 vw, .string vn, .slice vA vs.length vc] 30) = Wy at *
       obtain ⟨be, hbee⟩ : ∃ be, wr.heap.size = be := ⟨_, rfl⟩
       rw [hbee] at hbe ⊢
       have hBw : Below w.heap.size w Wy := hMy.be
       have hrowy := own_only hrow (only_of_below [] hBy) (by simp)
       have hownsy : owns eT Wy w.heap.size newsE := owns_keep (only_of_below [] hBy) hE.own (by simp)
       have hbel := hbe.lt
       have hg2 : g2 < be := by omega
       have hg2B : BB ≤ g2 := hE.hi g2 (by simp [Loc.fp])
       replace hbee := Lib.hid hbee
       have hgg : g < BB := hlow.out g (.inl rfl)
       have hBEB : BB ≤ be := by have := hbee.out; omega
       clear r0 r1 r2 r3 r4 r5 hrow
       obtain ⟨S, hSi, hSe⟩ : ∃ S : World → Prop, (∀ W, (W.cell? ⟨g, k * 6 + 2, none⟩ = some (.slice (some ⟨g2, 0, none⟩) m ecap) ∧ W.cell? ⟨be, 0, none⟩ = some (.int .u8 vk) ∧ W.cell? ⟨be, 1, none⟩ = some (.int .u8 vo) ∧ W.cell? ⟨be, 2, none⟩ = some (.int .u32 vv) ∧ W.cell? ⟨be, 3, none⟩ = some (.int .i64 vw) ∧ W.cell? ⟨be, 4, none⟩ = some (.string vn) ∧ W.cell? ⟨be, 5, none⟩ = some (.slice vA vs.length vc)) → S W) ∧ (∀ W, S W → (W.cell? ⟨g, k * 6 + 2, none⟩ = some (.slice (some ⟨g2, 0, none⟩) m ecap) ∧ W.cell? ⟨be, 0, none⟩ = some (.int .u8 vk) ∧ W.cell? ⟨be, 1, none⟩ = some (.int .u8 vo) ∧ W.cell? ⟨be, 2, none⟩ = some (.int .u32 vv) ∧ W.cell? ⟨be, 3, none⟩ = some (.int .i64 vw) ∧ W.cell? ⟨be, 4, none⟩ = some (.string vn) ∧ W.cell? ⟨be, 5, none⟩ = some (.slice vA vs.length vc))) := ⟨fun W => W.cell? ⟨g, k * 6 + 2, none⟩ = some (.slice (some ⟨g2, 0, none⟩) m ecap) ∧ W.cell? ⟨be, 0, none⟩ = some (.int .u8 vk) ∧ W.cell? ⟨be, 1, none⟩ = some (.int .u8 vo) ∧ W.cell? ⟨be, 2, none⟩ = some (.int .u32 vv) ∧ W.cell? ⟨be, 3, none⟩ = some (.int .i64 vw) ∧ W.cell? ⟨be, 4, none⟩ = some (.string vn) ∧ W.cell? ⟨be, 5, none⟩ = some (.slice vA vs.length vc), fun _ h => h, fun _ h => h⟩
       have hS : S Wy.drew := hSi _ ⟨(hMy.at_ 2 rfl).1, hbe.cell 0, hbe.cell 1, hbe.cell 2, hbe.cell 3, hbe.cell 4, hbe.cell 5⟩
       replace hSi := Lib.hid hSi
       replace hSe := Lib.hid hSe
       refine wp_region_held (S := S) (by kernel_rfl) ?_
       change wpAnyH _ _ _ _ _ _ _ _ (World.drew _)
       refine takeH 0 (v := ?_) rfl (by kernel_rfl) (by kernel_rfl) (by kernel_rfl) (fun _ _ _ h => h) (by rfl) hS ?_ ?_
       rotate_left
       ·(intro wz hSw; obtain ⟨z0, z1, z2, z3, z4, z5, z6⟩ := hSe.out _ hSw; go_simp; try with_reducible rfl)
       try simp only [Act.put, List.setIfInBounds_toArray, List.set_cons_zero, List.set_cons_succ]
       refine takeH 1 (v := ?_) rfl (by kernel_rfl) (by kernel_rfl) (by kernel_rfl) (fun _ _ _ h => h) (by rfl) hS ?_ ?_
       rotate_left
       ·(intro wz hSw; obtain ⟨z0, z1, z2, z3, z4, z5, z6⟩ := hSe.out _ hSw; go_simp; try with_reducible rfl)
       try simp only [Act.put, List.setIfInBounds_toArray, List.set_cons_zero, List.set_cons_succ]
       refine takeH 2 (v := .pointer (some ⟨g, k * 6, none⟩)) rfl (by kernel_rfl) (by kernel_rfl) (by kernel_rfl) (fun _ _ _ h => h) (by rfl) hS ?_ ?_
       ·(intro wz hSw; obtain ⟨z0, z1, z2, z3, z4, z5, z6⟩ := hSe.out _ hSw; go_simp)
       try simp only [Act.put, List.setIfInBounds_toArray, List.set_cons_zero, List.set_cons_succ]
       refine takeH 3 (v := .pointer (some ⟨g, k * 6 + 2, none⟩)) rfl (by kernel_rfl) (by kernel_rfl) (by kernel_rfl) (fun _ _ _ h => h) (by rfl) hS ?_ ?_
       ·(intro wz hSw; obtain ⟨z0, z1, z2, z3, z4, z5, z6⟩ := hSe.out _ hSw; go_simp)
       try simp only [Act.put, List.setIfInBounds_toArray, List.set_cons_zero, List.set_cons_succ]
       refine takeH 4 (v := .slice (some ⟨g2, 0, none⟩) m ecap) rfl (by kernel_rfl) (by kernel_rfl) (by kernel_rfl) (fun _ _ _ h => h) (by rfl) hS ?_ ?_
       ·(intro wz hSw; obtain ⟨z0, z1, z2, z3, z4, z5, z6⟩ := hSe.out _ hSw; go_simp)
       try simp only [Act.put, List.setIfInBounds_toArray, List.set_cons_zero, List.set_cons_succ]
       refine takeH 5 (v := ?_) rfl (by kernel_rfl) (by kernel_rfl) (by kernel_rfl) (fun _ _ _ h => h) (by rfl) hS ?_ ?_
       rotate_left
       ·(intro wz hSw; obtain ⟨z0, z1, z2, z3, z4, z5, z6⟩ := hSe.out _ hSw; go_simp; try with_reducible rfl)
       try simp only [Act.put, List.setIfInBounds_toArray, List.set_cons_zero, List.set_cons_succ]
       refine takeH 6 (v := .agg #[.int .u8 vk, .int .u8 vo, .int .u32 vv, .int .i64 vw, .string vn, .slice vA vs.length vc]) rfl (by kernel_rfl) (by kernel_rfl) (by kernel_rfl) (fun _ _ _ h => h) (by rfl) hS ?_ ?_
       ·(intro wz hSw; obtain ⟨z0, z1, z2, z3, z4, z5, z6⟩ := hSe.out _ hSw; go_simp)
       try simp only [Act.put, List.setIfInBounds_toArray, List.set_cons_zero, List.set_cons_succ]
       refine takeH 7 (v := ?_) rfl (by kernel_rfl) (by kernel_rfl) (by kernel_rfl) (fun _ _ _ h => h) (by rfl) hS ?_ ?_
       rotate_left
       ·(intro wz hSw; obtain ⟨z0, z1, z2, z3, z4, z5, z6⟩ := hSe.out _ hSw; go_simp; try with_reducible rfl)
       try simp only [Act.put, List.setIfInBounds_toArray, List.set_cons_zero, List.set_cons_succ]
       refine callH 8 rfl (by kernel_rfl) (fun K hK => ?_)
       go_simp
       go_wp2_with (go_at_call 82; refine (hcallE.out Wy.drew hBw.drew).mono ?_; rintro e w5 ⟨zk, zo, zv, zw, zn, zA, zc, zs, rfl, hLp, hLo, hLn, hB5'⟩)
       have hB5 := below_undrew hB5'
       have hM5 := hMy.new hB5
       have hbe5 := hbe.below hB5 hbel
       have hrow5 := own_only hrowy (only_of_below [] hB5) (by simp)
       have hth := there_six hrow5 hpre'.out
       refine hK.out _ _ (hSi.out _ ⟨(hM5.at_ 2 rfl).1, hbe5.cell 0, hbe5.cell 1, hbe5.cell 2, hbe5.cell 3, hbe5.cell 4, hbe5.cell 5⟩) (fun hSn => ?_)
       clear hK K hS
       have hS := hSn
       clear hSn
       refine takeH 9 (v := .pointer (some ⟨g2, j * 6, none⟩)) rfl (by kernel_rfl) (by kernel_rfl) (by kernel_rfl) (fun _ _ _ h => h) (by rfl) hS ?_ ?_
       ·(intro wz hSw; obtain ⟨z0, z1, z2, z3, z4, z5, z6⟩ := hSe.out _ hSw; go_simp)
       try simp only [Act.put, List.setIfInBounds_toArray, List.set_cons_zero, List.set_cons_succ]
       have hgo : Only [g2] w5 ((((((w5.setCell ⟨g2, j * 6, none⟩ (.int .u8 zk)).setCell ⟨g2, j * 6 + 1, none⟩ (.int .u8 zo)).setCell ⟨g2, j * 6 + 2, none⟩ (.int .u32 zv)).setCell ⟨g2, j * 6 + 3, none⟩ (.int .i64 zw)).setCell ⟨g2, j * 6 + 4, none⟩ (.string zn)).setCell ⟨g2, j * 6 + 5, none⟩ (.slice zA zs.length zc)) := Only.six (Only.refl _ _) (.inl (by simp)) _ _ _ _ _ _
       have hrow6 := own_put6 hrow5 hpre'.out (.int .u8 zk) (.int .u8 zo) (.int .u32 zv) (.int .i64 zw) (.string zn) (.slice zA zs.length zc)
       have hl5 : ∀ b, (b = g ∨ b ∈ fpS news) → b ≠ g2 := fun b hb e => by have := hlow.out b hb; omega
       have hM6 := hM5.same (wr' := ((((((w5.setCell ⟨g2, j * 6, none⟩ (.int .u8 zk)).setCell ⟨g2, j * 6 + 1, none⟩ (.int .u8 zo)).setCell ⟨g2, j * 6 + 2, none⟩ (.int .u32 zv)).setCell ⟨g2, j * 6 + 3, none⟩ (.int .i64 zw)).setCell ⟨g2, j * 6 + 4, none⟩ (.string zn)).setCell ⟨g2, j * 6 + 5, none⟩ (.slice zA zs.length zc))) (fun b hb => hgo.block b (hM5.low b hb) (by simpa using hl5 b hb)) (hM5.be.trans (hgo.below hM5.be.size (by simp; omega)))
       have hbe6 := hbe5.only hgo (by simp; omega)
       refine callH 10 rfl (by kernel_rfl) (fun K hK => ?_)
       rw [if_pos (by rfl)]
       refine wp_store_six 30 (.tmp 59) (.tmp 58) rfl g2 (j * 6) (.int .u8 zk) (.int .u8 zo) (.int .u32 zv) (.int .i64 zw) (.string zn) (.slice zA zs.length zc) rfl rfl hth (by kernel_rfl) (by simp [Value.oneCell']) ?_
       refine hK.out _ _ (hSi.out _ ⟨(hM6.at_ 2 rfl).1, hbe6.cell 0, hbe6.cell 1, hbe6.cell 2, hbe6.cell 3, hbe6.cell 4, hbe6.cell 5⟩) (fun hSn => ?_)
       clear hK K hS
       have hS := hSn
       clear hSn
       refine wpAnyH_done (by kernel_rfl) ?_ _
       generalize ((((((w5.setCell ⟨g2, j * 6, none⟩ (.int .u8 zk)).setCell ⟨g2, j * 6 + 1, none⟩ (.int .u8 zo)).setCell ⟨g2, j * 6 + 2, none⟩ (.int .u32 zv)).setCell ⟨g2, j * 6 + 3, none⟩ (.int .i64 zw)).setCell ⟨g2, j * 6 + 4, none⟩ (.string zn)).setCell ⟨g2, j * 6 + 5, none⟩ (.slice zA zs.length zc)) = w6 at *
       clear hS hSi hSe
       clear S
       have hLge := hLo.ge
       have hWyB : BB ≤ Wy.heap.size := by omega
       have hL6 : (Ex.mk ⟨zk, zo, zv, zw, zn⟩ ⟨zA, zc⟩ zs).own eT w6 w.heap.size := by
        refine (hLo.keep hgo fun q hq hm => ?_).base_le (Nat.le_trans hBw.size (Nat.le_refl _))
        have h1 : Wy.heap.size ≤ q := (hLge q hq).1
        simp only [List.mem_singleton] at hm
        omega
       have hns6 : owns eT w6 w.heap.size newsE := owns_keep hgo (owns_keep (only_of_below [] hB5) hownsy (by simp)) fun q hq hm => by
        simp only [List.mem_singleton] at hm
        subst hm
        exact (List.nodup_append.1 hE.nd).2.2 q (by simp [Loc.fp]) q hq rfl
       have hB6 : Below BB W7 w6 := ((hE.be.trans (hBy.mono hsBx)).trans (hB5.mono hWyB)).trans (hgo.below (by have := hB5.size; omega) (by simp; omega))
       have hE6 : NEx w (chg from_ to_) yx (some ⟨g2, 0, none⟩) ecap m BB W7 (j + 1) (newsE ++ [Ex.mk ⟨zk, zo, zv, zw, zn⟩ ⟨zA, zc⟩ zs]) w6 := by
        refine ⟨by omega, by rw [List.length_append, hE.len]; rfl, ?_, ?_, ?_, ?_, ?_, hB6⟩
        ·have h1 := hE.pl
         rw [plains_map] at h1 ⊢
         rw [htv'.out, List.map_append, h1, List.map_cons, List.map_nil, hLp]
        ·rw [List.append_assoc, cellsL_append]
         exact hrow6
        ·exact owns_iff.2 fun y hy => by
          rcases List.mem_append.1 hy with hy | hy
          ·exact owns_iff.1 hns6 y hy
          ·rw [List.mem_singleton] at hy; rw [hy]; exact hL6
        ·rw [fps_append, ← List.append_assoc]
         refine nodup_at hE.nd (by simpa [fps] using hLn) (B := Wy.heap.size) (fun b hb => ?_) (fun b hb => (hLge b (by simpa [fps] using hb)).1)
         rcases List.mem_append.1 hb with hb | hb
         ·simp [Loc.fp] at hb; omega
         ·exact (owns_ge hownsy b hb).2
        ·intro b hb
         rw [fps_append, ← List.append_assoc] at hb
         rcases List.mem_append.1 hb with hb | hb
         ·exact hE.hi b hb
         ·exact Nat.le_trans hWyB (hLge b (by simpa [fps] using hb)).1
       replace hE6 := Lib.hid hE6
       clear hgo hLge hM6 hM5 hL6 hns6 hB6 hrow6 hrow5 hth hM hMy
       go_wp2_with fail
       go_roundw
       case rel => exact ⟨j + 1, _, by go_num, hE6.out⟩
       case measure => simp [intOf]; omega
      ·obtain rfl : j = m := by omega
       have hdr : yx.drop j = [] := List.drop_eq_nil_of_le (by have := hm'.out; omega)
       have htx : yx.take j = yx := List.take_of_length_le (by have := hm'.out; omega)
       have hrowE := hE.row
       rw [hdr, List.append_nil] at hrowE
       have hplE := hE.pl
       rw [htx] at hplE
       have hlE := hE.len
       have hM8 := hM7.same (fun b hb => hE.be.block b (hlow.out b hb)) (hM7.be.trans (hE.be.mono hwB))
       have hbs8 : Blk wr bs 40 #[.int .u8 yk, .string yn, .slice aA j ac, .int .i64 yb, .slice bA yt.length bc, .slice cA ye.length cc] := (hE.be.block bs hbsB).trans hbs7
       have hownE := hE.own
       have hndE := hE.nd
       have hhi8 := hE.hi
       have hBE : BB ≤ wr.heap.size := by have := hE.be.size; omega
       clear hE hM7 hbs7 hdr htx hsB
       rename_i W7x _ _
       replace hplE := Lib.hid hplE
       replace hlE := Lib.hid hlE
       replace hhi8 := Lib.hid hhi8
       have hBw8 : Below w.heap.size w wr := hM8.be
       have hbl8 := hbs8.lt
       go_upto_region 13 with (fail)
       obtain ⟨S, hSi, hSe⟩ : ∃ S : World → Prop, (∀ W, (W.cell? ⟨bs, 4, none⟩ = some (.slice bA yt.length bc) ∧ W.cell? ⟨bs, 5, none⟩ = some (.slice cA ye.length cc)) → S W) ∧ (∀ W, S W → (W.cell? ⟨bs, 4, none⟩ = some (.slice bA yt.length bc) ∧ W.cell? ⟨bs, 5, none⟩ = some (.slice cA ye.length cc))) := ⟨fun W => W.cell? ⟨bs, 4, none⟩ = some (.slice bA yt.length bc) ∧ W.cell? ⟨bs, 5, none⟩ = some (.slice cA ye.length cc), fun _ h => h, fun _ h => h⟩
       have hS : S wr.drew := hSi _ ⟨hbs8.cell 4, hbs8.cell 5⟩
       replace hSi := Lib.hid hSi
       replace hSe := Lib.hid hSe
       refine wp_region_held (S := S) (by kernel_rfl) ?_
       change wpAnyH _ _ _ _ _ _ _ _ (World.drew _)
       refine takeH 0 (v := ?_) rfl (by kernel_rfl) (by kernel_rfl) (by kernel_rfl) (fun _ _ _ h => h) (by rfl) hS ?_ ?_
       rotate_left
       ·(intro wz hSw; obtain ⟨z0, z1⟩ := hSe.out _ hSw; go_simp; try with_reducible rfl)
       try simp only [Act.put, List.setIfInBounds_toArray, List.set_cons_zero, List.set_cons_succ]
       refine takeH 1 (v := ?_) rfl (by kernel_rfl) (by kernel_rfl) (by kernel_rfl) (fun _ _ _ h => h) (by rfl) hS ?_ ?_
       rotate_left
       ·(intro wz hSw; obtain ⟨z0, z1⟩ := hSe.out _ hSw; go_simp; try with_reducible rfl)
       try simp only [Act.put, List.setIfInBounds_toArray, List.set_cons_zero, List.set_cons_succ]
       refine takeH 2 (v := ?_) rfl (by kernel_rfl) (by kernel_rfl) (by kernel_rfl) (fun _ _ _ h => h) (by rfl) hS ?_ ?_
       rotate_left
       ·(intro wz hSw; obtain ⟨z0, z1⟩ := hSe.out _ hSw; go_simp; try with_reducible rfl)
       try simp only [Act.put, List.setIfInBounds_toArray, List.set_cons_zero, List.set_cons_succ]
       refine takeH 3 (v := ?_) rfl (by kernel_rfl) (by kernel_rfl) (by kernel_rfl) (fun _ _ _ h => h) (by rfl) hS ?_ ?_
       rotate_left
       ·(intro wz hSw; obtain ⟨z0, z1⟩ := hSe.out _ hSw; go_simp; try with_reducible rfl)
       try simp only [Act.put, List.setIfInBounds_toArray, List.set_cons_zero, List.set_cons_succ]
       refine takeH 4 (v := ?_) rfl (by kernel_rfl) (by kernel_rfl) (by kernel_rfl) (fun _ _ _ h => h) (by rfl) hS ?_ ?_
       rotate_left
       ·(intro wz hSw; obtain ⟨z0, z1⟩ := hSe.out _ hSw; go_simp; try with_reducible rfl)
       try simp only [Act.put, List.setIfInBounds_toArray, List.set_cons_zero, List.set_cons_succ]
       refine takeH 5 (v := .slice bA yt.length bc) rfl (by kernel_rfl) (by kernel_rfl) (by kernel_rfl) (fun _ _ _ h => h) (by rfl) hS ?_ ?_
       ·(intro wz hSw; obtain ⟨z0, z1⟩ := hSe.out _ hSw; go_simp)
       try simp only [Act.put, List.setIfInBounds_toArray, List.set_cons_zero, List.set_cons_succ]
       refine takeH 6 (v := ?_) rfl (by kernel_rfl) (by kernel_rfl) (by kernel_rfl) (fun _ _ _ h => h) (by rfl) hS ?_ ?_
       rotate_left
       ·(intro wz hSw; obtain ⟨z0, z1⟩ := hSe.out _ hSw; go_simp; try with_reducible rfl)
       try simp only [Act.put, List.setIfInBounds_toArray, List.set_cons_zero, List.set_cons_succ]
       refine takeH 8 (v := ?_) rfl (by kernel_rfl) (by kernel_rfl) (by kernel_rfl) (fun _ _ _ h => h) (by rfl) hS ?_ ?_
       rotate_left
       ·(intro wz hSw; obtain ⟨z0, z1⟩ := hSe.out _ hSw; go_simp; try with_reducible rfl)
       try simp only [Act.put, List.setIfInBounds_toArray, List.set_cons_zero, List.set_cons_succ]
       refine takeH 9 (v := .slice cA ye.length cc) rfl (by kernel_rfl) (by kernel_rfl) (by kernel_rfl) (fun _ _ _ h => h) (by rfl) hS ?_ ?_
       ·(intro wz hSw; obtain ⟨z0, z1⟩ := hSe.out _ hSw; go_simp)
       try simp only [Act.put, List.setIfInBounds_toArray, List.set_cons_zero, List.set_cons_succ]
       refine takeH 10 (v := ?_) rfl (by kernel_rfl) (by kernel_rfl) (by kernel_rfl) (fun _ _ _ h => h) (by rfl) hS ?_ ?_
       rotate_left
       ·(intro wz hSw; obtain ⟨z0, z1⟩ := hSe.out _ hSw; go_simp; try with_reducible rfl)
       try simp only [Act.put, List.setIfInBounds_toArray, List.set_cons_zero, List.set_cons_succ]
       refine callH 7 rfl (by kernel_rfl) (fun K hK => ?_)
       go_simp
       go_wp2_with (go_at_call 88; refine (hc2.out wr.drew hBw8.drew).mono ?_; rintro e w9 ⟨tA, tc, newsT, rfl, hTl, hTp, hTo, hTn, hB9'⟩)
       have hB9 := below_undrew hB9'
       have hM9 := hM8.new hB9
       have hbs9 := hbs8.below hB9 hbl8
       refine hK.out _ _ (hSi.out _ ⟨hbs9.cell 4, hbs9.cell 5⟩) (fun hSn => ?_)
       clear hK K hS
       have hS := hSn
       clear hSn
       refine callH 11 rfl (by kernel_rfl) (fun K hK => ?_)
       go_simp
       go_wp2_with (go_at_call 88; refine (hc3.out w9 hM9.be).mono ?_; rintro e w10 ⟨uA, uc, newsU, rfl, hUl, hUp, hUo, hUn, hB10⟩)
       have hM10 := hM9.new hB10
       have hbs10 := hbs9.below hB10 hbs9.lt
       refine hK.out _ _ (hSi.out _ ⟨hbs10.cell 4, hbs10.cell 5⟩) (fun hSn => ?_)
       clear hK K hS
       have hS := hSn
       clear hSn
       refine takeH 12 (v := .pointer (some ⟨g, k * 6, none⟩)) rfl (by kernel_rfl) (by kernel_rfl) (by kernel_rfl) (fun _ _ _ h => h) (by rfl) hS ?_ ?_
       ·(intro wz hSw; obtain ⟨z0, z1⟩ := hSe.out _ hSw; go_simp)
       try simp only [Act.put, List.setIfInBounds_toArray, List.set_cons_zero, List.set_cons_succ]
       refine takeH 13 (v := .pointer (some ⟨g, k * 6 + 4, none⟩)) rfl (by kernel_rfl) (by kernel_rfl) (by kernel_rfl) (fun _ _ _ h => h) (by rfl) hS ?_ ?_
       ·(intro wz hSw; obtain ⟨z0, z1⟩ := hSe.out _ hSw; go_simp)
       try simp only [Act.put, List.setIfInBounds_toArray, List.set_cons_zero, List.set_cons_succ]
       obtain ⟨r4, q4⟩ := hM10.at_ 4 rfl
       have hgl10 := hM10.lt.2
       have hM11 := hM10.put 4 (by simp) (.slice tA yt.length tc)
       have hbs11 := hbs10.far (p := ⟨g, k * 6 + 4, none⟩) hne' (.slice tA yt.length tc)
       simp only [List.set_cons_zero, List.set_cons_succ] at hM11
       refine callH 14 rfl (by kernel_rfl) (fun K hK => ?_)
       go_simp
       go_wp2_with fail
       refine hK.out _ _ (hSi.out _ ⟨hbs11.cell 4, hbs11.cell 5⟩) (fun hSn => ?_)
       clear hK K hS
       have hS := hSn
       clear hSn
       refine takeH 15 (v := .pointer (some ⟨g, k * 6, none⟩)) rfl (by kernel_rfl) (by kernel_rfl) (by kernel_rfl) (fun _ _ _ h => h) (by rfl) hS ?_ ?_
       ·(intro wz hSw; obtain ⟨z0, z1⟩ := hSe.out _ hSw; go_simp)
       try simp only [Act.put, List.setIfInBounds_toArray, List.set_cons_zero, List.set_cons_succ]
       refine takeH 16 (v := .pointer (some ⟨g, k * 6 + 5, none⟩)) rfl (by kernel_rfl) (by kernel_rfl) (by kernel_rfl) (fun _ _ _ h => h) (by rfl) hS ?_ ?_
       ·(intro wz hSw; obtain ⟨z0, z1⟩ := hSe.out _ hSw; go_simp)
       try simp only [Act.put, List.setIfInBounds_toArray, List.set_cons_zero, List.set_cons_succ]
       clear r4 q4
       obtain ⟨r5, q5⟩ := hM11.at_ 5 rfl
       have hgl11 := hM11.lt.2
       have hM12 := hM11.put 5 (by simp) (.slice uA ye.length uc)
       have hbs12 := hbs11.far (p := ⟨g, k * 6 + 5, none⟩) hne' (.slice uA ye.length uc)
       simp only [List.set_cons_zero, List.set_cons_succ] at hM12
       refine callH 17 rfl (by kernel_rfl) (fun K hK => ?_)
       go_simp
       go_wp2_with fail
       refine hK.out _ _ (hSi.out _ ⟨hbs12.cell 4, hbs12.cell 5⟩) (fun hSn => ?_)
       clear hK K hS
       have hS := hSn
       clear hSn
       refine wpAnyH_done (by kernel_rfl) ?_ _
       have hgo : Only [g] w10 ((w10.setCell ⟨g, k * 6 + 4, none⟩ (.slice tA yt.length tc)).setCell ⟨g, k * 6 + 5, none⟩ (.slice uA ye.length uc)) := ((Only.refl _ _).setCell (.inl (by simp)) _).setCell (.inl (by simp)) _
       generalize (w10.setCell ⟨g, k * 6 + 4, none⟩ (.slice tA yt.length tc)).setCell ⟨g, k * 6 + 5, none⟩ (.slice uA ye.length uc) = w12 at *
       clear hS hSi hSe r5 q5
       clear S
       have hgB : g < BB := hlow.out g (.inl rfl)
       have hs9 : wr.heap.size ≤ w9.heap.size := hB9.size
       have hs10 := hB10.size
       have hlE' := hlE.out
       have hE8 : Lex.own eT wr w.heap.size ⟨eA, ecap⟩ newsE := ⟨by show World.ownsRow _ _ 30 6 (.slice eA newsE.length ecap) newsE.length _; rw [hlE']; exact hrowE, hownE⟩
       have hEge : ∀ b ∈ Lex.fp ⟨eA, ecap⟩ newsE, BB ≤ b ∧ b < wr.heap.size := fun b hb => ⟨hhi8.out b hb, (hE8.ge b hb).2⟩
       have hTge : ∀ b ∈ Lst.fp ⟨tA, tc⟩ newsT, wr.heap.size ≤ b ∧ b < w9.heap.size := fun b hb => hTo.ge b hb
       have hUge : ∀ b ∈ Lst.fp ⟨uA, uc⟩ newsU, w9.heap.size ≤ b ∧ b < w10.heap.size := fun b hb => hUo.ge b hb
       have hE12 : Lex.own eT w12 w.heap.size ⟨eA, ecap⟩ newsE := ((hE8.keep (only_of_below [] hB9) (by simp)).keep (only_of_below [] hB10) (by simp)).keep hgo (fun b hb hm => by have := (hEge b hb).1; simp at hm; omega)
       have hT12 : Lst.own eT w12 w.heap.size ⟨tA, tc⟩ newsT := ((hTo.keep (only_of_below [] hB10) (by simp)).keep hgo (fun b hb hm => by have := (hTge b hb).1; simp at hm; omega)).base_le hBw8.size
       have hU12 : Lst.own eT w12 w.heap.size ⟨uA, uc⟩ newsU := (hUo.keep hgo (fun b hb hm => by have := (hUge b hb).1; simp at hm; omega)).base_le hM9.be.size
       have hXe : (SHd.mk yk nm' yb) = (SHd.mk yk yn yb).ren (chg from_ to_) := by
        rw [hnm'.out, hh'.out]; unfold SHd.ren; split <;> rfl
       have hNo := hN.out
       have hfin : NSt w (chg from_ to_) ls (some ⟨g, 0, none⟩) lcap n (k + 1) (news ++ [St.mk ⟨yk, nm', yb⟩ ⟨eA, ecap⟩ ⟨tA, tc⟩ ⟨uA, uc⟩ newsE newsT newsU]) w12 := by
        refine ⟨by omega, by rw [List.length_append, hNo.len]; rfl, ?_, ?_, ?_, ?_, hM12.be⟩
        ·have h1 := hNo.pl
         rw [plainS_map] at h1 ⊢
         rw [htk'.out, List.map_append, h1, List.map_cons, List.map_nil]
         simp only [St.plain, St.ren, hplE.out, hTp, hUp, hXe]
        ·rw [List.append_assoc, cellsS_append]
         show World.ownsRow _ _ 40 6 _ n (cellsS eT news ++ ([.int .u8 yk, .string nm', .slice eA newsE.length ecap, .int .i64 yb, .slice tA newsT.length tc, .slice uA newsU.length uc] ++ cellsS eT (ls.drop (k + 1))))
         rw [hlE', hTl, hUl]
         exact hM12.row
        ·exact ownS_iff.2 fun y hy => by
          rcases List.mem_append.1 hy with hy | hy
          ·exact ownS_iff.1 hM12.own y hy
          ·rw [List.mem_singleton] at hy; rw [hy]; exact ⟨hE12, hT12, hU12⟩
        ·rw [fpS_append, ← List.append_assoc]
         have hfx : fpS [St.mk ⟨yk, nm', yb⟩ ⟨eA, ecap⟩ ⟨tA, tc⟩ ⟨uA, uc⟩ newsE newsT newsU] = Lex.fp ⟨eA, ecap⟩ newsE ++ (Lst.fp ⟨tA, tc⟩ newsT ++ Lst.fp ⟨uA, uc⟩ newsU) := by simp [fpS, St.fp, Lex.fp, Lst.fp]
         rw [hfx]
         refine nodup_at hNo.nd (nodup_at hndE (nodup_at hTn hUn (B := w9.heap.size) (fun b hb => (hTge b hb).2) (fun b hb => (hUge b hb).1)) (B := wr.heap.size) (fun b hb => (hEge b hb).2) (fun b hb => ?_)) (B := BB) (fun b hb => ?_) (fun b hb => ?_)
         ·rcases List.mem_append.1 hb with hb | hb
          ·exact (hTge b hb).1
          ·have := (hUge b hb).1; omega
         ·rcases List.mem_append.1 hb with hb | hb
          ·exact hlow.out b (.inl (by simpa [Loc.fp] using hb))
          ·exact hlow.out b (.inr hb)
         ·rcases List.mem_append.1 hb with hb | hb
          ·exact (hEge b hb).1
          ·rcases List.mem_append.1 hb with hb | hb
           ·have := (hTge b hb).1; omega
           ·have := (hUge b hb).1; omega
       replace hfin := Lib.hid hfin
       clear hEge hTge hUge hE12 hT12 hU12 hE8 hgo hM8 hM9 hM10 hM11 hM12 hTo hUo hTn hUn hTl hUl hTp hUp hlE' hXe hNo
       go_wp2_with fail
       go_roundw
       case rel => exact ⟨k + 1, _, by go_num, hfin.out⟩
       case measure => simp [intOf]; omega
  ·obtain rfl : k = n := by omega
   have hdr : ls.drop k = [] := List.drop_eq_nil_of_le (by have := hn'.out; omega)
   have htk : ls.take k = ls := List.take_of_length_le (by have := hn'.out; omega)
   have hrow := hN.row
   have hpl := hN.pl
   have hnl := hN.len
   rw [hdr, List.append_nil] at hrow
   rw [htk] at hpl
   replace hpl := Lib.hid hpl
   replace hnl := Lib.hid hnl
   replace hdr := Lib.hid hdr
   replace htk := Lib.hid htk
   go_wp2
   go_ret
   have hnk : news.length = k := hnl.out
   exact ⟨lA, lcap, news, rfl, by rw [hnk], hpl.out, ⟨by show World.ownsRow _ _ 40 6 (.slice lA news.length lcap) news.length _; rw [hnk]; exact hrow, hN.own⟩, hN.nd, hN.be⟩
end Go.Proofs.YtnldbplphgfpeaaGreat
