/- Trails: what is yielded, beside the reference. -/
import Derived.Test.YtkedepkhcbhcdaaTrlX
import Derived.Test.YtkedepkhcbhcdaaJoin
import Derived.Sort.CutIn
namespace Go.Proofs.Ytkedepkhcbhcdaa
open Go Go.RowKit Go.Shelf
set_option linter.unusedVariables false
set_option linter.unusedSimpArgs false
set_option maxHeartbeats 4000000
theorem wp_loop_j {P : Program} {Q : Exit → Act → World → Prop} {a : Act} {w : World} {c : Code} (I : Act → World → Prop) (μ : Act → World → Nat) (h0 : I a w)
    (round : ∀ a w, I a w → ∀ J : Act → World → Prop, (∀ a' w', I a' w' → μ a' w' < μ a w → J a' w') → c.wp P (Exit.then J Q) a w) : (Code.loop c).wp P Q a w :=
  wp_loop I μ h0 fun a w h => round a w h _ (fun _ _ h1 h2 => ⟨h1, h2⟩)
/-- The two boxes. -/
structure LBox (w : World) (v : Array Value) (W : World) : Prop where
  below : Below w.heap.size w W
  b : Blk W w.heap.size 82 v
  r : Blk W (w.heap.size + 1) 4 #[.bool false]
section
variable {w W W' : World} {v : Array Value}
theorem LBox.ck {B : Nat} (h : LBox w v W) (k : CellsKept B W W') (hB : w.heap.size ≤ B) : LBox w v W' := ⟨below_ck h.below (Nat.le_refl _) k hB, h.b.ck k, h.r.ck k⟩
theorem LBox.new (h : LBox w v W) (hb : Below W.heap.size W W') : LBox w v W' := ⟨below_and h.below hb, h.b.below hb h.b.lt, h.r.below hb h.r.lt⟩
theorem LBox.only {fq : List Nat} (h : LBox w v W) (ho : Only fq W W') (hn : ∀ k, k ∈ fq → w.heap.size + 1 < k) : LBox w v W' :=
  ⟨h.below.trans (ho.below h.below.size (fun k hk => by have := hn k hk; omega)), h.b.only ho (fun hk => by have := hn _ hk; omega), h.r.only ho (fun hk => by have := hn _ hk; omega)⟩
end
theorem marks_keep {B C : Nat} {W0 W W' : World} {ds : List Deferred} (h0 : Marks B W0 ds) (h : Marks B W ds) (k : CellsKept C W W') (hC : W0.heap.size ≤ C) : Marks B W' ds :=
  h.keep fun D _ hm => by
    obtain ⟨h1, h2, h3⟩ := h.lt hm
    rw [h3]
    exact k.same D _ h3 (.inr (by have := (h0.lt hm).1; omega))
/-- What the range over Lits keeps. -/
structure LsIn (w : World) (v : Array Value) (d N Bt Bf : Nat) (f : Int) (fn len : Nat) (ds : List Deferred) (fp : List Nat) (pre : List (Nat × Int)) (W : World) : Prop where
  fpE : fp = [N]
  box : LBox w v W
  bk : Blk W N 3 #[.int .i64 ((fn : Int) + (pre.length : Int))]
  bt : Blk W Bt 23 #[.pointer (some ⟨d, 0, none⟩)]
  bf : Blk W Bf 3 #[.int .i64 f]
  few : pre = [] ∨ fn + pre.length ≤ len
  ord : w.heap.size + 1 < N ∧ N < Bt ∧ Bt < Bf
  marks : Marks w.heap.size W ds
def LFin (w : World) (v : Array Value) (N : Nat) (m : Nat) (ds : List Deferred) (W : World) : Prop := LBox w v W ∧ Blk W N 3 #[.int .i64 (m : Int)] ∧ Marks w.heap.size W ds ∧ w.heap.size + 1 < N
theorem LsIn.ck {B : Nat} {w W0 W W' : World} {v : Array Value} {d N Bt Bf fn len : Nat} {f : Int} {ds : List Deferred} {fp : List Nat} {pre : List (Nat × Int)} (hm : Marks w.heap.size W0 ds) (h : LsIn w v d N Bt Bf f fn len ds fp pre W) (k : CellsKept B W W') (hB : w.heap.size ≤ B) (hC : W0.heap.size ≤ B) : LsIn w v d N Bt Bf f fn len ds fp pre W' :=
  ⟨h.fpE, h.box.ck k hB, h.bk.ck k, h.bt.ck k, h.bf.ck k, h.few, h.ord, marks_keep hm h.marks k hC⟩
def updY (T : Array Value) (i1 i2 j1 j2 : Nat) (y : Nat × Int) : Act := { tmps := (((T.setIfInBounds i1 (.int .i64 y.1)).setIfInBounds i2 (.int .i64 y.2)).setIfInBounds j1 (.int .i64 y.1)).setIfInBounds j2 (.int .i64 y.2), defers := [] }
/-- What the range over Down keeps. -/
structure DsIn (w : World) (v : Array Value) (d N Bt : Nat) (len : Nat) (ds : List Deferred) (fp : List Nat) (pre : List (Nat × Int)) (W : World) : Prop where
  fpE : fp = [N]
  box : LBox w v W
  bk : Blk W N 3 #[.int .i64 (lastI len pre : Int)]
  bt : Blk W Bt 23 #[.pointer (some ⟨d, 0, none⟩)]
  few : lastI len pre ≤ len
  ord : w.heap.size + 1 < N ∧ N < Bt
  marks : Marks w.heap.size W ds
theorem DsIn.ck {B : Nat} {w W0 W W' : World} {v : Array Value} {d N Bt len : Nat} {ds : List Deferred} {fp : List Nat} {pre : List (Nat × Int)} (hm : Marks w.heap.size W0 ds) (h : DsIn w v d N Bt len ds fp pre W) (k : CellsKept B W W') (hB : w.heap.size ≤ B) (hC : W0.heap.size ≤ B) : DsIn w v d N Bt len ds fp pre W' :=
  ⟨h.fpE, h.box.ck k hB, h.bk.ck k, h.bt.ck k, h.few, h.ord, marks_keep hm h.marks k hC⟩
/-- The rounds of the first loop. -/
def LRound (w : World) (d : Nat) (D : Trl) (Ai As : Option Addr) (ci cs : Nat) (mn : Int) (a : Act) (W : World) : Prop :=
  ∃ (k : Int) (u6 u12 u13 u14 u15 u16 u17 u18 u19 u20 u21 u22 u23 u24 u25 u50 u51 u52 u53 u54 u55 u56 : Value) (ds : List Deferred), a = { tmps := #[.pointer (some ⟨d, 0, none⟩), .agg #[.int .i64 D.n, .int .i64 ((D.st.length : Int) - 1), .slice Ai D.its.length ci, .slice As D.st.length cs], undef, .pointer (some ⟨w.heap.size, 0, none⟩), .pointer (some ⟨w.heap.size + 1, 0, none⟩), (.int .i64 k), u6, undef, undef, undef, undef, undef, u12, u13, u14, u15, u16, u17, u18, u19, u20, u21, u22, u23, u24, u25, undef, undef, undef, undef, undef, undef, undef, undef, undef, undef, undef, undef, undef, undef, undef, undef, undef, undef, undef, undef, undef, undef, undef, undef, u50, u51, u52, u53, u54, u55, u56, undef, undef, undef, undef, undef, undef, undef, undef, undef, undef, undef, undef, undef, undef, undef, undef, undef, undef, undef, undef, undef, undef, undef, undef, undef, undef, undef, undef], defers := ds } ∧ -1 ≤ k ∧ k ≤ mn + 2 ∧ LBox w #[.int .i64 D.n, .int .i64 ((D.st.length : Int) - 1), .slice Ai D.its.length ci, .slice As D.st.length cs] W ∧ Marks w.heap.size W ds
attribute [local go_sem] Oper.semAt_some
set_option maxRecDepth 100000 in
theorem lists_in (m : Nat) (hm1 : 3 ≤ m) {w : World} {v : Value} {D : Trl} {base d : Nat} {fp : List Nat} (hT : Trail w base d fp D) (h : Ref w v D) (hst : D.st.length ≤ 1000) (hits : D.its.length ≤ 1000) :
    CallsIn Fence.wide m Try.prog 51 #[.pointer (some ⟨d, 0, none⟩), v] w fun e w' => e = .returned (.bool true) ∧ Below w.heap.size w w' := by
  have hok : D.Ok := hT.ok
  obtain ⟨Ai, ci, As, cs, rfl, hI, hS, k1, k2, k3, k4⟩ := h
  have s2 : (D.its.length : Int) ≤ 1000 := by omega
  have hbox := (Blk.new w 82 #[.int .i64 D.n, .int .i64 ((D.st.length : Int) - 1), .slice Ai D.its.length ci, .slice As D.st.length cs]).alloc (.cells #[.bool false] 4)
  have hres := Blk.new (w.alloc (.cells #[.int .i64 D.n, .int .i64 ((D.st.length : Int) - 1), .slice Ai D.its.length ci, .slice As D.st.length cs] 82)) 4 #[.bool false]
  rw [World.size_alloc] at hres
  have hB0 : Below w.heap.size w ((w.alloc (.cells #[.int .i64 D.n, .int .i64 ((D.st.length : Int) - 1), .slice Ai D.its.length ci, .slice As D.st.length cs] 82)).alloc (.cells #[.bool false] 4)) := ((Below.refl _ _).alloc (Nat.le_refl _) _).alloc (by simp) _
  replace hok := Lib.hid hok
  refine callsIn_of_wp_marks Try.func51 rfl trivial ?_ rfl
  simp only [Try.ntmps51, List.size_toArray, List.length_cons, List.length_nil, Nat.reduceAdd, Nat.reduceSub, Array.replicate_succ, Array.replicate_zero, List.push_toArray, List.append_toArray, List.nil_append, List.cons_append]
  refine wpIn_wide.2 ?_
  go_wp2_with fail
  have hL0 : LBox w #[.int .i64 D.n, .int .i64 ((D.st.length : Int) - 1), .slice Ai D.its.length ci, .slice As D.st.length cs] ((w.alloc (.cells #[.int .i64 D.n, .int .i64 ((D.st.length : Int) - 1), .slice Ai D.its.length ci, .slice As D.st.length cs] 82)).alloc (.cells #[.bool false] 4)) := ⟨hB0, hbox, hres⟩
  generalize (w.alloc (.cells #[.int .i64 D.n, .int .i64 ((D.st.length : Int) - 1), .slice Ai D.its.length ci, .slice As D.st.length cs] 82)).alloc (.cells #[.bool false] 4) = W0 at *
  obtain ⟨mn, hmn⟩ : ∃ mn : Int, min (D.its.length : Int) 5 = mn := ⟨_, rfl⟩
  have hmn0 : 0 ≤ mn := by omega
  have hmn1 : mn ≤ 5 := by omega
  refine wp_loop_j (LRound w d D Ai As ci cs mn) (fun a _ => (mn + 2 - intOf (a.tmps.getD 5 undef)).toNat) ⟨-1, _, _, _, _, _, _, _, _, _, _, _, _, _, _, _, _, _, _, _, _, _, _, [], rfl, by omega, by omega, hL0, trivial⟩ ?_
  clear hL0 hbox hres hB0
  clear W0
  rintro a W ⟨k, u6, u12, u13, u14, u15, u16, u17, u18, u19, u20, u21, u22, u23, u24, u25, u50, u51, u52, u53, u54, u55, u56, ds, rfl, hk0, hk1, hL, hds⟩ J hJ
  replace hJ := Lib.hid hJ
  dsimp only
  have b2 := hL.b.cell 2
  simp only [List.getElem?_toArray, List.getElem?_cons_succ, List.getElem?_cons_zero] at b2
  go_upto_region 2 with (fail)
  go_cut [18] from 12 to 18 (fun b18 wx => b18 = .bool (decide (k ≤ mn + 1)) ∧ wx = W)
  case first =>
    by_cases h40 : (D.its.length : Int) ≤ 5
    · obtain rfl : (D.its.length : Int) = mn := by omega
      go_wp2_with fail
      go_meet
      exact ⟨rfl, rfl⟩
    · obtain rfl : 5 = mn := by omega
      go_wp2_with fail
      go_meet
      exact ⟨rfl, rfl⟩
  case rest =>
    obtain ⟨rfl, hwc⟩ := hcut
    subst hwc
    by_cases hlt : k ≤ mn + 1
    · have hd1 : decide (k ≤ mn + 1) = true := by simp [hlt]
      obtain ⟨kn, hkn⟩ : ∃ kn : Nat, k.toNat = kn := ⟨_, rfl⟩
      go_upto_region 4 with (fail)
      obtain ⟨N, hN0⟩ : ∃ N, wc.heap.size = N := ⟨_, rfl⟩
      go_cut [6, 18] from 21 to 22 (fun b6 b18 wx => b18 = .bool true ∧ b6 = .pointer (some ⟨N, 0, none⟩) ∧ LFin w #[.int .i64 D.n, .int .i64 ((D.st.length : Int) - 1), .slice Ai D.its.length ci, .slice As D.st.length cs] N kn ds wx)
      case first =>
        subst hN0
        have hN := hL.r.lt
        have hL2 := hL.new ((Below.refl _ wc).alloc (Nat.le_refl _) (.cells #[.int .i64 (kn : Int)] 3))
        have hds2 := hds.only (only_of_below [] ((Below.refl _ wc).alloc (Nat.le_refl _) (.cells #[.int .i64 (kn : Int)] 3))) (by simp)
        have hbk := Blk.new wc 3 #[.int .i64 (kn : Int)]
        have hfin : LFin w #[.int .i64 D.n, .int .i64 ((D.st.length : Int) - 1), .slice Ai D.its.length ci, .slice As D.st.length cs] wc.heap.size kn ds (wc.alloc (.cells #[.int .i64 (kn : Int)] 3)) := ⟨hL2, hbk, hds2, hN⟩
        clear hL2 hds2 hbk
        replace hfin := Lib.hid hfin
        by_cases h0 : 0 ≤ k
        · obtain rfl : k = (kn : Int) := by omega
          go_wp2_with fail
          go_meet
          exact ⟨rfl, rfl, hfin.out⟩
        · obtain rfl : k = -1 := by omega
          obtain rfl : 0 = kn := hkn
          go_wp2_with fail
          go_meet
          exact ⟨rfl, rfl, hfin.out⟩
      case rest =>
        obtain ⟨rfl, rfl, hL1, hbk, hds1, hN⟩ := hcut
        clear hL hds b2 hN0
        have hT1 := hT.new hL1.below
        go_wp2_with (go_at_call 28; refine (lits28 _ _ _).mono ?_; rintro e w' ⟨rfl, rfl⟩)
        have hW1 : LsIn w #[.int .i64 D.n, .int .i64 ((D.st.length : Int) - 1), .slice Ai D.its.length ci, .slice As D.st.length cs] d N wc.heap.size (wc.heap.size + 1) k kn (max kn D.its.length) ds [N] [] ((wc.alloc (.cells #[.pointer (some ⟨d, 0, none⟩)] 23)).alloc (.cells #[.int .i64 k] 3)) := by
          have hBx : Below wc.heap.size wc ((wc.alloc (.cells #[.pointer (some ⟨d, 0, none⟩)] 23)).alloc (.cells #[.int .i64 k] 3)) := ((Below.refl _ _).alloc (Nat.le_refl _) _).alloc (by simp) _
          have h4 := Blk.new (wc.alloc (.cells #[.pointer (some ⟨d, 0, none⟩)] 23)) 3 #[.int .i64 k]
          rw [World.size_alloc] at h4
          exact ⟨rfl, hL1.new hBx, (hbk.below hBx hbk.lt), (Blk.new wc 23 _).alloc _, h4, .inl rfl, ⟨hN, hbk.lt, by omega⟩, hds1.only (only_of_below [] hBx) (by simp)⟩
        have hkb : -9223372036854775808 ≤ k ∧ k ≤ 9223372036854775807 := by omega
        generalize (wc.alloc (.cells #[.pointer (some ⟨d, 0, none⟩)] 23)).alloc (.cells #[.int .i64 k] 3) = W1 at *
        generalize hBt : wc.heap.size = Bt at *
        generalize hBf : Bt + 1 = Bf at *
        clear hL1 hbk hds1 hT1 hBt hBf
        clear wc
        have hsW1 := hW1.box.below.size
        have hm1' : Marks w.heap.size W1 ds := hW1.marks
        rename_i hcont
        replace hcont := Lib.hid hcont
        refine (wpIn_wide (n := m)).1 ?_
        refine wpIn_range_join rfl (enters_of Try.func40 (by kernel_rfl) rfl) (seq40 base d Bf Bt k hkb) (fun _ => rfl)
          (LsIn w #[.int .i64 D.n, .int .i64 ((D.st.length : Int) - 1), .slice Ai D.its.length ci, .slice As D.st.length cs] d N Bt Bf k kn (max kn D.its.length) ds) (fun _ _ => False)
          (fun fp => ownFrom_of fun x W W' kk hI => hI.ck hm1' kk hsW1 (Nat.le_refl _)) (ownFrom_of fun _ _ _ kk h => h) (fun fp pre W hI => by obtain ⟨A, c, hO⟩ := (hT.new hI.box.below).ordr; exact ⟨hI.bf, hI.bt, A, c, _, hO⟩) [N] (by have := hW1.bk.lt; simp; omega) hW1
          (fun T pre y a' W => a' = updY T 26 27 7 8 y ∧ ((lits D))[y.1]? = some y.2 ∧ y.1 = kn + pre.length) (fun _ _ _ => ownFrom_of fun _ _ _ _ h => h) ?assign 2 (fun _ _ h => h) ?body (LFin w #[.int .i64 D.n, .int .i64 ((D.st.length : Int) - 1), .slice Ai D.its.length ci, .slice As D.st.length cs] N (max kn D.its.length) ds) ?done ?hE (fun _ _ h => h.elim) ?fin
        case assign =>
          intro l2 m2 fp pre y W2 K hI hX hK
          have hx : ((lits D))[y.1]? = some y.2 ∧ y.1 = kn + pre.length := by
            obtain ⟨h1, A', c', ls', h2, h3⟩ := hX
            obtain ⟨A, c, hO⟩ := (hT.new hI.box.below).ordr
            rw [h2.uniq hO] at h3
            rw [hkn] at h1
            exact ⟨h3, h1⟩
          have hfin := hK _ W2 (Only.refl [] _) hI ⟨rfl, hx⟩
          clear hK hX hx
          simp only [updY, List.setIfInBounds_toArray, List.set_cons_succ, List.set_cons_zero] at hfin
          replace hfin := Lib.hid hfin
          simp only [enc2]
          gi_wp2
          exact hfin.out
        case body =>
          rintro l2 m2 fp pre ⟨y1, y2⟩ a' W2 hI2 ⟨rfl, hx, hy1⟩
          dsimp only at hx hy1
          simp only [updY, List.setIfInBounds_toArray, List.set_cons_succ, List.set_cons_zero]
          obtain ⟨x, hxi, rfl⟩ : ∃ x, D.its[y1]? = some x ∧ x.lit = y2 := by
            rw [lits, List.getElem?_map] at hx
            cases h : D.its[y1]? with
            | none => rw [h] at hx; cases hx
            | some x => rw [h] at hx; injection hx with hx; exact ⟨x, rfl, hx⟩
          have hyl := (List.getElem?_eq_some_iff.1 hxi).1
          have t1 : (y1 : Int) < (D.its.length : Int) := by omega
          have t2 : 0 ≤ (y1 : Int) := by omega
          obtain ⟨ad, hA, hadb, q0, _, _⟩ := Ref.row (hI.below hI2.box.below) hxi
          subst hA
          have bk := hI2.bk
          rw [show (kn : Int) + (pre.length : Int) = (y1 : Int) by omega] at bk
          have c0 := bk.cell 0
          have f0 := bk.frozen 0
          have c2 := hI2.box.b.cell 2
          simp only [List.getElem?_toArray, List.getElem?_cons_succ, List.getElem?_cons_zero] at c0 c2
          have hcl : ∀ k o, k ∈ [N] → W2.heap[k]? = some o → o.isCells = true := fun k o hk hko => by rw [List.mem_singleton] at hk; subst hk; exact blk_cells bk hko
          have hO := (Only.refl [N] W2).setCell (p := ⟨N, 0, none⟩) (.inl (by simp)) (.int .i64 ((y1 : Int) + 1))
          have hfin : LsIn w #[.int .i64 D.n, .int .i64 ((D.st.length : Int) - 1), .slice (some ad) D.its.length ci, .slice As D.st.length cs] d N Bt Bf k kn (max kn D.its.length) ds [N] (pre ++ [(y1, x.lit)]) (W2.setCell ⟨N, 0, none⟩ (.int .i64 ((y1 : Int) + 1))) := by
            obtain ⟨o1, o2, o3⟩ := hI2.ord
            refine ⟨rfl, hI2.box.only hO (fun i hi => by have := List.mem_singleton.1 hi; omega), ?_, hI2.bt.only hO (fun hm => by have := List.mem_singleton.1 hm; omega), hI2.bf.only hO (fun hm => by have := List.mem_singleton.1 hm; omega), .inr (by simp; omega), hI2.ord, hI2.marks.only hO hcl⟩
            have := bk.set_ 0 (.int .i64 ((y1 : Int) + 1))
            rw [show (kn : Int) + ((pre ++ [(y1, x.lit)]).length : Int) = (y1 : Int) + 1 by simp; omega]
            simpa using this
          obtain rfl := hI2.fpE
          replace hfin := Lib.hid hfin
          replace hO := Lib.hid hO
          replace hy1 := Lib.hid hy1
          clear hcl bk hI2 hx hxi hadb
          generalize x.lit = xl at *
          gi_wp2
          exact ⟨hO.out, [N], hfin.out, fun i hi => .inl hi⟩
        case done =>
          rintro fp xs W2 ⟨A', c', ls', hE1, hE2⟩ hI2
          obtain ⟨A, c, hO⟩ := (hT.new hI2.box.below).ordr
          rw [hE1.uniq hO, hkn, lits_len] at hE2
          refine ⟨hI2.box, ?_, hI2.marks, hI2.ord.1⟩
          have e : ((max kn D.its.length : Nat) : Int) = (kn : Int) + (xs.length : Int) := by
            rcases hI2.few with rfl | h
            · simp at hE2 ⊢; omega
            · omega
          rw [e]
          exact hI2.bk
        case hE =>
          rintro xs W l o o' h1 h2 h3 ⟨A', c', ls, h4, h5⟩
          exact ⟨A', c', ls, h4.ck (CellsKept.putObj (B := 0) W _ h2 h3 (Nat.zero_le _)), h5⟩
        case fin =>
          intro Dd W2 hDd hG hDm
          refine hcont.out _ _ ?_
          clear hcont
          dsimp only
          obtain ⟨hL2, hbk2, hds2, hN2⟩ := hG
          have hds3 : Marks w.heap.size W2 ({ target := .collected Dd, args := #[] } :: ds) := hds2.push (by omega) hDm (fun D' hm => by have := (hm1'.lt hm).1; omega)
          clear hW1 hm1' hsW1 hDd hds2
          clear W1
          obtain ⟨mx, hmx⟩ : ∃ mx : Nat, max kn D.its.length = mx := ⟨_, rfl⟩
          rw [hmx] at hbk2
          have c0 := hbk2.cell 0
          have c2 := hL2.b.cell 2
          simp only [List.getElem?_toArray, List.getElem?_cons_succ, List.getElem?_cons_zero] at c0 c2
          go_upto_region 11 with (fail)
          go_cut [56] from 50 to 56 (fun b56 wx => b56 = .bool false ∧ wx = W2)
          case first =>
            by_cases h0 : 0 ≤ k
            · obtain rfl : k = (kn : Int) := by omega
              by_cases hm : kn ≤ D.its.length
              · obtain rfl : D.its.length = mx := by omega
                have hm2 : (kn : Int) ≤ (D.its.length : Int) := by omega
                have hm3 : 0 ≤ (kn : Int) := by omega
                go_wp2_with fail
                all_goals
                  go_meet
                  first
                    | exact ⟨rfl, rfl⟩
                    | (have he9 : (D.its.length : Int) = (kn : Int) := by omega
                       exact ⟨by rw [he9]; simp, rfl⟩)
              · obtain rfl : kn = mx := by omega
                have hm2 : ¬ (kn : Int) ≤ (D.its.length : Int) := by omega
                have hm3 : 0 ≤ (kn : Int) := by omega
                go_wp2_with fail
                all_goals
                  go_meet
                  first
                    | exact ⟨rfl, rfl⟩
                    | (have he9 : (D.its.length : Int) = (kn : Int) := by omega
                       exact ⟨by rw [he9]; simp, rfl⟩)
            · obtain rfl : k = -1 := by omega
              obtain rfl : D.its.length = mx := by simp at hkn; omega
              have hm3 : 0 ≤ (D.its.length : Int) := by omega
              go_wp2_with fail
              all_goals
                go_meet
                first
                  | exact ⟨rfl, rfl⟩
                  | (have he9 : (D.its.length : Int) = 0 := by omega
                     exact ⟨by rw [he9]; simp, rfl⟩)
          case rest =>
            obtain ⟨rfl, hwc⟩ := hcut
            subst hwc
            go_wp2_with fail
            refine hJ.out _ _ ⟨k + 1, _, _, _, _, _, _, _, _, _, _, _, _, _, _, _, _, _, _, _, _, _, _, _, rfl, by omega, by omega, hL2, hds3⟩ ?_
            simp [intOf]
            omega
    · have hd1 : decide (k ≤ mn + 1) = false := by simp [hlt]
      have hTw := hT.new hL.below
      go_wp2_with (go_at_call 29; refine (down29 _ _).mono ?_; rintro e w' ⟨rfl, rfl⟩)
      have hN : w.heap.size + 1 < wc.heap.size := hL.r.lt
      have hW1 : DsIn w #[.int .i64 D.n, .int .i64 ((D.st.length : Int) - 1), .slice Ai D.its.length ci, .slice As D.st.length cs] d wc.heap.size (wc.heap.size + 1) D.its.length ds [wc.heap.size] [] ((wc.alloc (.cells #[.int .i64 (D.its.length : Int)] 3)).alloc (.cells #[.pointer (some ⟨d, 0, none⟩)] 23)) := by
        have hBx : Below wc.heap.size wc ((wc.alloc (.cells #[.int .i64 (D.its.length : Int)] 3)).alloc (.cells #[.pointer (some ⟨d, 0, none⟩)] 23)) := ((Below.refl _ _).alloc (Nat.le_refl _) _).alloc (by simp) _
        have h4 := Blk.new (wc.alloc (.cells #[.int .i64 (D.its.length : Int)] 3)) 23 #[.pointer (some ⟨d, 0, none⟩)]
        rw [World.size_alloc] at h4
        exact ⟨rfl, hL.new hBx, (Blk.new wc 3 _).alloc _, h4, Nat.le_refl _, ⟨hN, by omega⟩, hds.only (only_of_below [] hBx) (by simp)⟩
      generalize (wc.alloc (.cells #[.int .i64 (D.its.length : Int)] 3)).alloc (.cells #[.pointer (some ⟨d, 0, none⟩)] 23) = W1 at *
      generalize hNN : wc.heap.size = N at *
      generalize hBt : N + 1 = Bt at *
      clear hL hds hTw hBt hNN b2
      clear wc
      have hsW1 := hW1.box.below.size
      have hm1' : Marks w.heap.size W1 ds := hW1.marks
      rename_i hcont
      replace hcont := Lib.hid hcont
      refine (wpIn_wide (n := m)).1 ?_
      refine wpIn_range_join rfl (enters_of Try.func41 (by kernel_rfl) rfl) (seq41 base d Bt D.its.length) (fun _ => rfl)
        (DsIn w #[.int .i64 D.n, .int .i64 ((D.st.length : Int) - 1), .slice Ai D.its.length ci, .slice As D.st.length cs] d N Bt D.its.length ds) (fun _ _ => False)
        (fun fp => ownFrom_of fun x W W' kk hI => hI.ck hm1' kk hsW1 (Nat.le_refl _)) (ownFrom_of fun _ _ _ kk h => h) (fun fp pre W hI => by obtain ⟨A, c, hO⟩ := (hT.new hI.box.below).ordr; exact ⟨hI.bt, A, c, _, hO, fun _ => lits_len D⟩) [N] (by have := hW1.bk.lt; simp; omega) hW1
        (fun T pre y a' W => a' = updY T 62 63 10 11 y ∧ ((lits D))[y.1]? = some y.2 ∧ y.1 + 1 = lastI D.its.length pre) (fun _ _ _ => ownFrom_of fun _ _ _ _ h => h) ?assign2 4 (fun _ _ h => h) ?body2 (LFin w #[.int .i64 D.n, .int .i64 ((D.st.length : Int) - 1), .slice Ai D.its.length ci, .slice As D.st.length cs] N 0 ds) ?done2 ?hE2 (fun _ _ h => h.elim) ?fin2
      case assign2 =>
        intro l2 m2 fp pre y W2 K hI hX hK
        have hx : ((lits D))[y.1]? = some y.2 ∧ y.1 + 1 = lastI D.its.length pre := by
          obtain ⟨A', c', ls', h2, h1, h3⟩ := hX
          obtain ⟨A, c, hO⟩ := (hT.new hI.box.below).ordr
          rw [h2.uniq hO] at h3 h1
          have := hI.few
          rw [lits_len] at h1
          exact ⟨h3, by omega⟩
        have hfin := hK _ W2 (Only.refl [] _) hI ⟨rfl, hx⟩
        clear hK hX hx
        simp only [updY, List.setIfInBounds_toArray, List.set_cons_succ, List.set_cons_zero] at hfin
        replace hfin := Lib.hid hfin
        simp only [enc2]
        gi_wp2
        exact hfin.out
      case body2 =>
        rintro l2 m2 fp pre ⟨y1, y2⟩ a' W2 hI2 ⟨rfl, hx, hy1⟩
        dsimp only at hx hy1
        simp only [updY, List.setIfInBounds_toArray, List.set_cons_succ, List.set_cons_zero]
        obtain ⟨x, hxi, rfl⟩ : ∃ x, D.its[y1]? = some x ∧ x.lit = y2 := by
          rw [lits, List.getElem?_map] at hx
          cases h : D.its[y1]? with
          | none => rw [h] at hx; cases hx
          | some x => rw [h] at hx; injection hx with hx; exact ⟨x, rfl, hx⟩
        have hyl := (List.getElem?_eq_some_iff.1 hxi).1
        have t1 : (y1 : Int) < (D.its.length : Int) := by omega
        have t2 : 0 ≤ (y1 : Int) := by omega
        have t3 : ¬ (y1 : Int) < 0 := by omega
        obtain ⟨ad, hA, hadb, q0, _, _⟩ := Ref.row (hI.below hI2.box.below) hxi
        subst hA
        have bk := hI2.bk
        rw [← hy1] at bk
        rw [show ((y1 + 1 : Nat) : Int) = (y1 : Int) + 1 by omega] at bk
        have c0 := bk.cell 0
        have f0 := bk.frozen 0
        have c2 := hI2.box.b.cell 2
        simp only [List.getElem?_toArray, List.getElem?_cons_succ, List.getElem?_cons_zero] at c0 c2
        have hcl : ∀ k o, k ∈ [N] → W2.heap[k]? = some o → o.isCells = true := fun k o hk hko => by rw [List.mem_singleton] at hk; subst hk; exact blk_cells bk hko
        have hO := (Only.refl [N] W2).setCell (p := ⟨N, 0, none⟩) (.inl (by simp)) (.int .i64 (y1 : Int))
        have q1 : (W2.setCell ⟨N, 0, none⟩ (.int .i64 (y1 : Int))).cell? (ad.add (y1 * 3)) = some (.int .i64 x.lit) := by
          have o1 := hI2.ord.1
          have o2 := bk.lt
          refine (hO.cell (by rw [block_of_add]; omega) (fun hm => ?_)).trans q0
          have := List.mem_singleton.1 hm
          rw [block_of_add] at this
          omega
        have hne : ad.block ≠ N := by have := hI2.ord.1; omega
        have hfin : DsIn w #[.int .i64 D.n, .int .i64 ((D.st.length : Int) - 1), .slice (some ad) D.its.length ci, .slice As D.st.length cs] d N Bt D.its.length ds [N] (pre ++ [(y1, x.lit)]) (W2.setCell ⟨N, 0, none⟩ (.int .i64 (y1 : Int))) := by
          obtain ⟨o1, o2⟩ := hI2.ord
          refine ⟨rfl, hI2.box.only hO (fun i hi => by have := List.mem_singleton.1 hi; omega), ?_, hI2.bt.only hO (fun hm => by have := List.mem_singleton.1 hm; omega), by rw [lastI_snoc]; omega, hI2.ord, hI2.marks.only hO hcl⟩
          have := bk.set_ 0 (.int .i64 (y1 : Int))
          rw [lastI_snoc]
          simpa using this
        obtain rfl := hI2.fpE
        replace hfin := Lib.hid hfin
        replace hO := Lib.hid hO
        replace hy1 := Lib.hid hy1
        have hwN := hI2.ord.1
        have hbN : N < W2.heap.size := bk.lt
        clear hcl bk hI2 hx hxi hadb
        generalize x.lit = xl at *
        gi_wp2
        exact ⟨hO.out, [N], hfin.out, fun i hi => .inl hi⟩
      case done2 =>
        rintro fp xs W2 ⟨A', c', ls', hE1, hE2⟩ hI2
        obtain ⟨A, c, hO⟩ := (hT.new hI2.box.below).ordr
        rw [hE1.uniq hO, lits_len] at hE2
        refine ⟨hI2.box, ?_, hI2.marks, hI2.ord.1⟩
        have := hI2.few
        have e : lastI D.its.length xs = 0 := by omega
        have := hI2.bk
        rw [e] at this
        exact this
      case hE2 =>
        rintro xs W l o o' h1 h2 h3 ⟨A', c', ls, h4, h5⟩
        exact ⟨A', c', ls, h4.ck (CellsKept.putObj (B := 0) W _ h2 h3 (Nat.zero_le _)), h5⟩
      case fin2 =>
        intro Dd W2 hDd hG hDm
        refine hcont.out _ _ ?_
        clear hcont
        dsimp only
        obtain ⟨hL2, hbk2, hds2, hN2⟩ := hG
        have hds3 : Marks w.heap.size W2 ({ target := .collected Dd, args := #[] } :: ds) := hds2.push (by omega) hDm (fun D' hm => by have := (hm1'.lt hm).1; omega)
        have c0 := hbk2.cell 0
        have r0 := hL2.r.cell 0
        have f0 := hL2.r.frozen 0
        simp only [List.getElem?_toArray, List.getElem?_cons_zero] at c0 r0
        have hlt9 := hL2.r.lt
        go_wp2_with fail
        have hm12 := hds3.only (fp := [w.heap.size + 1]) ((Only.refl [w.heap.size + 1] W2).setCell (p := ⟨w.heap.size + 1, 0, none⟩) (.inl (by simp)) (.bool true)) (fun i o hi ho => by rw [List.mem_singleton] at hi; subst hi; exact blk_cells hL2.r ho)
        have hb12 := hL2.below.setCell (p := ⟨w.heap.size + 1, 0, none⟩) (Nat.le_succ _) (.bool true)
        have hr12 := hL2.r.set_ 0 (.bool true)
        refine leaves_marks hm12 (fun W12 k12 => ⟨.bool true, ?_, rfl, below_ck hb12 (Nat.le_refl _) k12 (Nat.le_refl _)⟩)
        have c12 := (hr12.ck k12).cell 0
        simp at c12
        simp [results, Try.results51, go_sem, c12]
theorem lists_ok {w : World} {v : Value} {D : Trl} {base d : Nat} {fp : List Nat} (hT : Trail w base d fp D) (h : Ref w v D) (hst : D.st.length ≤ 1000) (hits : D.its.length ≤ 1000) :
    Calls Try.prog 51 #[.pointer (some ⟨d, 0, none⟩), v] w fun e w' => e = .returned (.bool true) ∧ Below w.heap.size w w' :=
  callsIn_wide.1 (lists_in 3 (by omega) hT h hst hits)
end Go.Proofs.Ytkedepkhcbhcdaa
