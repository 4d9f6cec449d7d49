/- LubyYields: the walk. -/
import Derived.Test.YtanejldglbkacaaFirst
import Derived.Test.YtanejldglbkacaaLists
import Derived.Laws.ResultCell
namespace Go.Proofs.Ytanejldglbkacaa
open Go Go.RowKit Go.Shelf
set_option linter.unusedVariables false
set_option linter.unusedSimpArgs false
attribute [local go_sem] Oper.semAt_some
/-- The first numbers, as values. -/
def firsts (m : Nat) : List Value := (List.range m).map fun j => .int .i64 (L (j + 1) : Int)
/-- What the rounds keep. -/
structure YInv (w : World) (m L : Nat) (A : Option Addr) (c : Nat) (W : World) : Prop where
  bM : Blk W w.heap.size 5 #[.int .u8 m]
  bR : Blk W (w.heap.size + 1) 4 #[.bool false]
  bL : Blk W L 40 #[.slice A m c]
  row : W.ownsRow (w.heap.size + 2) 3 1 (.slice A m c) m (firsts m)
  low : ∀ k, (Value.slice A m c).ownBlock = some k → k < L
  lo : w.heap.size + 2 ≤ L
  below : Below w.heap.size w W
section
variable {w W W' : World} {m L : Nat} {A : Option Addr} {c : Nat}
theorem YInv.ck (h : YInv w m L A c W) {B : Nat} (k : CellsKept B W W') (hB : w.heap.size ≤ B) : YInv w m L A c W' :=
  ⟨h.bM.ck k, h.bR.ck k, h.bL.ck k, own_ck h.row k, h.low, h.lo, below_ck h.below (Nat.le_refl _) k hB⟩
theorem YInv.new (h : YInv w m L A c W) (k : Below W.heap.size W W') : YInv w m L A c W' :=
  ⟨h.bM.below k h.bM.lt, h.bR.below k h.bR.lt, h.bL.below k h.bL.lt, own_only h.row (only_of_below [] k) (by simp), h.low, h.lo, h.below.trans (k.mono h.below.size)⟩
theorem YInv.set (h : YInv w m L A c W) {N : Nat} (hN : L < N) (u : Value) : YInv w m L A c (W.setCell ⟨N, 0, none⟩ u) := by
  have hlo := h.lo
  exact ⟨h.bM.far (p := ⟨N, 0, none⟩) (by show _ ≠ N; omega) u, h.bR.far (p := ⟨N, 0, none⟩) (by show _ ≠ N; omega) u, h.bL.far (p := ⟨N, 0, none⟩) (by show _ ≠ N; omega) u,
    h.row.kept (grownBy_setCell' W N u) (.inr (fun e => by have := h.low N e; omega)), h.low, h.lo, h.below.setCell (p := ⟨N, 0, none⟩) (by show _ ≤ N; omega) u⟩
theorem YInv.at_ (h : YInv w m L A c W) {k : Nat} (hk : k < m) : ∃ g, A = some ⟨g, 0, none⟩ ∧ W.cell? ⟨g, k, none⟩ = some (.int .i64 (Ytanejldglbkacaa.L (k + 1) : Int)) := by
  rcases h.row.2 with ⟨e, rfl⟩ | ⟨g, cap, cur, e, hb, hg, hr⟩
  · omega
  · have hA : A = some ⟨g, 0, none⟩ := by injection e
    subst hA
    refine ⟨g, rfl, ?_⟩
    have := h.row.cells (g := g) rfl k (.int .i64 (Ytanejldglbkacaa.L (k + 1) : Int)) (by simp [firsts, hk])
    rwa [Addr.add_lit, Nat.zero_add] at this
end
theorem nums_ne (m : Nat) (hm : m ≤ 4096) : ∀ j, j < m → ((List.range m).map fun j => (Ytanejldglbkacaa.L (j + 1) : Int))[j]?.getD 0 ≠ 0 := by
  intro j hj
  have := L_pos (j + 1) (by omega)
  simp [hj]; omega
theorem reads_nums {w : World} {B m : Nat} {A : Option Addr} (h : Reads w B 1 A m ((List.range m).map fun j => .int .i64 (Ytanejldglbkacaa.L (j + 1) : Int))) :
    Reads w B 1 A m (((List.range m).map fun j => (Ytanejldglbkacaa.L (j + 1) : Int)).map (Value.int .i64)) := by
  rw [List.map_map]; exact h
/-- How a loop is left. -/
def YLeft (w : World) (m L N : Nat) (A : Option Addr) (c : Nat) (ds : List Deferred) (cd : Code) (xs : List NumIx) (W : World) : Prop :=
  (cd = .ret ∧ ∃ pre y, xs = pre ++ [y] ∧ y.1 ≠ pre.length) ∨ (cd = .exit 2 ∧ YInv w m L A c W ∧ Blk W N 3 #[.int .i64 m] ∧ Marks w.heap.size W ds)
def YIn (w : World) (m L N : Nat) (A : Option Addr) (c : Nat) (ds : List Deferred) (pre : List NumIx) (W : World) : Prop :=
  YInv w m L A c W ∧ Blk W N 3 #[.int .i64 (pre.length : Int)] ∧ pre.length ≤ m ∧ Marks w.heap.size W ds
theorem YIn.own (w w0 : World) (m L N : Nat) (A : Option Addr) (c : Nat) (ds : List Deferred) (hs : w.heap.size ≤ w0.heap.size) (hm : Marks w.heap.size w0 ds) : OwnFrom w0.heap.size (YIn w m L N A c ds) :=
  ownFrom_of fun s W W' k h => ⟨h.1.ck k hs, h.2.1.ck k, h.2.2.1, h.2.2.2.keep fun D hD hmem => by
    obtain ⟨h1, h2, h3⟩ := h.2.2.2.lt hmem
    rw [h3]
    exact k.same D _ h3 (.inr (hm.lt hmem).1)⟩
theorem YLeft.own (w w0 : World) (m L N : Nat) (A : Option Addr) (c : Nat) (ds : List Deferred) (hs : w.heap.size ≤ w0.heap.size) (hm : Marks w.heap.size w0 ds) (cd : Code) : OwnFrom w0.heap.size (YLeft w m L N A c ds cd) :=
  ownFrom_of fun s W W' k h => by
    rcases h with h | ⟨h0, h1, h2, h4⟩
    · exact .inl h
    · exact .inr ⟨h0, h1.ck k hs, h2.ck k, h4.keep fun D hD hmem => by
        obtain ⟨_, _, h3⟩ := h4.lt hmem
        rw [h3]
        exact k.same D _ h3 (.inr (hm.lt hmem).1)⟩
/-- Behind the rounds. -/
structure YEnd (w : World) (m L : Nat) (A : Option Addr) (c : Nat) (ds : List Deferred) (W : World) : Prop where
  bM : Blk W w.heap.size 5 #[.int .u8 m]
  bR : Blk W (w.heap.size + 1) 4 #[.bool false]
  bL : Blk W L 40 #[.slice A m c]
  row : 0 < m → ∃ g cur, A = some ⟨g, 0, none⟩ ∧ Blk W g 3 cur ∧ m ≤ cur.size ∧ w.heap.size + 2 ≤ g ∧ g < L
  below : Below w.heap.size w W
  marks : Marks w.heap.size W ds
theorem YInv.end_ {w W : World} {m L c : Nat} {A : Option Addr} {ds : List Deferred} (h : YInv w m L A c W) (hd : Marks w.heap.size W ds) : YEnd w m L A c ds W := by
  refine ⟨h.bM, h.bR, h.bL, fun hm => ?_, h.below, hd⟩
  rcases h.row.2 with ⟨e, rfl⟩ | ⟨g, cap, cur, e, hb, hg, h1, h2, h3, h4⟩
  · omega
  · have hA : A = some ⟨g, 0, none⟩ ∧ c = cap := by injection e with e1 e2 e3; exact ⟨e1, e3⟩
    exact ⟨g, cur, hA.1, hg, by omega, hb, h.low g (by rw [hA.1]; rfl)⟩
theorem YEnd.new {w W W' : World} {m L c : Nat} {A : Option Addr} {ds : List Deferred} (h : YEnd w m L A c ds W) (k : Below W.heap.size W W') : YEnd w m L A c ds W' := by
  refine ⟨h.bM.below k h.bM.lt, h.bR.below k h.bR.lt, h.bL.below k h.bL.lt, fun hm => ?_, h.below.trans (k.mono h.below.size), h.marks.only (only_of_below [] k) (by simp)⟩
  obtain ⟨g, cur, h1, h2, h3⟩ := h.row hm
  exact ⟨g, cur, h1, h2.below k h2.lt, h3⟩
theorem YEnd.zero {w W : World} {m L c k : Nat} {A : Option Addr} {ds : List Deferred} (h : YEnd w m L A c ds W) (hk : k < m) :
    ∃ g, A = some ⟨g, 0, none⟩ ∧ (∃ v, W.cell? ⟨g, k, none⟩ = some v) ∧ W.frozen? ⟨g, k, none⟩ = false ∧ YEnd w m L A c ds (W.setCell ⟨g, k, none⟩ (.int .i64 0)) := by
  obtain ⟨g, cur, h1, h2, h3, h4, h5⟩ := h.row (by omega)
  refine ⟨g, h1, ⟨_, by rw [h2.cell k]; exact Array.getElem?_eq_getElem (by omega)⟩, h2.frozen k, ⟨h.bM.far (p := ⟨g, k, none⟩) (by show _ ≠ g; omega) _, h.bR.far (p := ⟨g, k, none⟩) (by show _ ≠ g; omega) _, h.bL.far (p := ⟨g, k, none⟩) (by show _ ≠ g; omega) _,
    fun _ => ⟨g, _, h1, h2.set_ k (.int .i64 0), by simp; omega, h4, h5⟩, h.below.setCell (p := ⟨g, k, none⟩) (by show _ ≤ g; omega) _, ?_⟩⟩
  exact h.marks.only (fp := [g]) ((Only.refl [g] W).setCell (p := ⟨g, k, none⟩) (.inl (by simp)) _) (fun i o hi ho => by rw [List.mem_singleton] at hi; subst hi; exact blk_cells h2 ho)
set_option maxRecDepth 100000 in
set_option maxHeartbeats 8000000 in
theorem yields_in (n : Nat) (hn : 3 ≤ n) (m : Nat) (hm : m ≤ 255) (w : World) :
    CallsIn Fence.wide n Try.prog 8 #[.int .u8 m] w fun e w' => e = .returned (.bool true) ∧ Below w.heap.size w w' := by
  have h1 : 1 ≤ n := by omega
  have hm2 : (m : Int) ≤ 255 := by omega
  refine callsIn_of_wp_marks Try.func8 rfl trivial ?_ rfl
  simp only [Try.ntmps8, List.size_toArray, List.length_cons, List.length_nil, Nat.reduceAdd, Nat.reduceSub, Array.replicate_succ, Array.replicate_zero, List.push_toArray, List.append_toArray, List.nil_append, List.cons_append]
  gi_wp2_with (refine ⟨trivial, ?_⟩; gi_at_call 23; refine (callsIn_wide.2 (first_ok _ m rfl (by omega) _)).mono ?_; rintro e w1 ⟨v, rfl, hrow, hB1⟩; obtain ⟨A, c, rfl⟩ := own_form hrow; have bM : Blk w1 w.heap.size 5 #[.int .u8 m] := ((Blk.new w 5 _).alloc _).below hB1 (by simp; omega); have bR : Blk w1 (w.heap.size + 1) 4 #[.bool false] := (by have := Blk.new (w.alloc (Obj.cells #[Value.int IntKind.u8 m] 5)) 4 #[.bool false]; rw [World.size_alloc] at this; exact this.below hB1 (by simp)); have hs1 : w.heap.size < w1.heap.size := bM.lt; have hs2 : w.heap.size + 1 < w1.heap.size := bR.lt; have cM := bM.cell 0; have cR := bR.cell 0; have fR := bR.frozen 0; simp only [List.getElem?_toArray, List.getElem?_cons_zero] at cM cR)
  have hY : YInv w m w1.heap.size A c (w1.alloc (Obj.cells #[Value.slice A m c] 40)) := by
    refine ⟨bM.alloc _, bR.alloc _, Blk.new _ _ _, by have := hrow.alloc (Obj.cells #[Value.slice A m c] 40); simp only [World.size_alloc] at this; exact this, fun k hk => (hrow.lt k hk).2, by omega, ?_⟩
    have h0 : Below w.heap.size w ((w.alloc (Obj.cells #[Value.int IntKind.u8 m] 5)).alloc (Obj.cells #[Value.bool false] 4)) := ((Below.refl _ _).alloc (Nat.le_refl _) _).alloc (by simp) _
    exact (h0.trans (hB1.mono h0.size)).alloc (by omega) _
  clear hrow hB1 bM bR cM cR fR
  generalize w1.heap.size = L at hY hs1 hs2 ⊢
  generalize w1.alloc (Obj.cells #[Value.slice A m c] 40) = W at hY ⊢
  have hds : Marks w.heap.size W [] := trivial
  clear w1
  refine wpIn_loop_rounds 3 ?_
  rw [roundsIn_succ]

  have hLW := hY.bL.lt
  have eM := hY.bM.cell 0
  have eR := hY.bR.cell 0
  have eL := hY.bL.cell 0
  simp only [List.getElem?_toArray, List.getElem?_cons_zero] at eM eR eL
  gi_wp2_with (refine ⟨trivial, ?_⟩; gi_at_call 24; refine (all_in _ _).mono ?_; rintro e w' ⟨rfl, rfl⟩)
  replace hY := hY.new ((Below.refl _ W).alloc (Nat.le_refl _) (.cells #[.int .i64 0] 3))
  have bN := Blk.new W 3 #[.int .i64 0]
  replace hds := hds.only (only_of_below [] ((Below.refl _ W).alloc (Nat.le_refl _) (.cells #[.int .i64 0] 3))) (by simp)
  clear eM eR eL
  generalize W.heap.size = N at bN hLW ⊢
  generalize W.alloc (.cells #[.int .i64 0] 3) = W2 at hY bN hds ⊢
  have hsW : w.heap.size ≤ W2.heap.size := hY.below.size
  refine wpIn_rangeFunc_ownG rfl h1 (gf := 38) (lb := #[]) rfl trivial (enters_of Try.func38 (by kernel_rfl) rfl)
    (all_stops (n - 1) (by omega) W2) (fun _ _ => trivial) (fun _ _ _ _ _ _ _ _ => trivial) (Below.refl _ _) (fun _ => rfl)
    (YIn w m L N A c []) (YLeft w m L N A c []) (YIn.own w W2 m L N A c [] hsW hds) (YLeft.own w W2 m L N A c [] hsW hds) ⟨hY, bN, Nat.zero_le _, hds⟩ ?a1 ?assign ?body ?done ?stop
  case assign =>
    intro l y W K hK
    replace hK := Lib.hid hK
    gi_wp2
    exact hK.out
  case body =>
    rintro l pre ⟨y, hy⟩ W ⟨hI, bN, hpl, hds⟩ hlt
    dsimp only
    have h3 : 1 ≤ n - 1 - 1 := by omega
    have eN := bN.cell 0
    have fN := bN.frozen 0
    have eM := hI.bM.cell 0
    have eR := hI.bR.cell 0
    have fR := hI.bR.frozen 0
    have eL := hI.bL.cell 0
    simp only [List.getElem?_toArray, List.getElem?_cons_zero] at eN eM eR eL
    by_cases hbr : pre.length = m
    · have hb1 : ((pre.length : Int) == (m : Int)) = true := by rw [hbr]; simp
      replace hbr := Lib.hid hbr
      gi_wp2
      exact ⟨KeepsFrom.refl _ _, .inr ⟨rfl, hI, by rw [← hbr.out]; exact bN, hds⟩⟩
    · have hb1 : ((pre.length : Int) == (m : Int)) = false := beq_eq_false_iff_ne.2 (by omega)
      have hpm : pre.length < m := by omega
      have hpi : (pre.length : Int) < (m : Int) := by omega
      have hyi : (y : Int) + 1 ≤ 1099511627776 := by omega
      clear hbr
      by_cases hyp : y = pre.length
      · subst hyp
        obtain ⟨g, rfl, hc⟩ := hI.at_ hpm
        have hLp := L_pos (pre.length + 1) (by omega)
        generalize hx : (Ytanejldglbkacaa.L (pre.length + 1) : Int) = x at hc ⊢
        have hLp2 : 1 ≤ x ∧ x ≤ 1099511627776 := by omega
        replace hx := Lib.hid hx
        have hset := hI.set hLW (.int .i64 ((pre.length : Int) + 1))
        have bset := bN.set_ 0 (.int .i64 ((pre.length : Int) + 1))
        have ho := (Only.refl [N] W).setCell (p := ⟨N, 0, none⟩) (.inl (by simp)) (.int .i64 ((pre.length : Int) + 1))
        have hcl : ∀ k o, k ∈ [N] → W.heap[k]? = some o → o.isCells = true := fun k o hk hko => by rw [List.mem_singleton] at hk; subst hk; exact blk_cells bN hko
        replace hcl := Lib.hid hcl
        have hpx : Hid (YIn w m L N (some ⟨g, 0, none⟩) c [] (pre ++ [⟨pre.length, hy⟩]) (W.setCell ⟨N, 0, none⟩ (.int .i64 ((pre.length : Int) + 1)))) :=
          ⟨hset, by simpa using bset, by simp; omega, hds.only ho hcl.out⟩
        clear hset bset
        gi_wp2_with (refine ⟨trivial, ?_⟩; gi_at_call 13; refine ((callsIn_wide.2 (at_eq _ (pre.length + 1) x (by omega) (by omega) (by omega) hx _)).inRound l).mono ?_; rintro e w' ⟨rfl, rfl⟩)
        exact ⟨KeepsFrom.of_only ho hcl.out, trivial, hpx.out⟩
      · have hb2 : ((y : Int) + 1 != (pre.length : Int) + 1) = true := by rw [bne_iff_ne]; omega
        have hcl : ∀ k o, k ∈ [w.heap.size + 1] → W.heap[k]? = some o → o.isCells = true := fun k o hk hko => by rw [List.mem_singleton] at hk; subst hk; exact blk_cells hI.bR hko
        replace hcl := Lib.hid hcl
        replace hyp := Lib.hid hyp
        gi_wp2_with (refine ⟨trivial, ?_⟩; gi_at_call 13; refine ((callsIn_wide.2 (at_at _ (y + 1) (by omega) (by omega) (by omega) _)).inRound l).mono ?_; rintro e w' ⟨rfl, rfl⟩)
        exact ⟨KeepsFrom.of_only ((Only.refl [w.heap.size + 1] W).setCell (p := ⟨w.heap.size + 1, 0, none⟩) (.inl (by simp)) _) hcl.out, .inl ⟨rfl, pre, ⟨y, hy⟩, rfl, hyp.out⟩⟩
  case done =>
    rintro D ys W hD hS ⟨_, _, hle, _⟩ hK
    have := congrArg List.length hS
    simp at this
    omega
  case stop =>
    rintro D cd xs W' hD hSp hL hK
    rcases hL with ⟨rfl, pre, y, rfl, hne⟩ | ⟨rfl, hY', bN', hds'⟩
    · exact absurd (range_last hSp).2 hne
    · replace hds' := hds'.push (Nat.le_trans hsW hD) hK (fun D' hm => by have := (hds.lt hm).1; omega)
      clear hSp hK hds hY bN hsW hD hLW xs
      have eN := bN'.cell 0
      have eM := hY'.bM.cell 0
      simp only [List.getElem?_toArray, List.getElem?_cons_zero] at eN eM
      clear bN'
      gi_wp2
      clear eN eM
      rw [roundsIn_succ]
      clear W2 W
      have hY := hY'
      have hds := hds'
      clear hY' hds'
      obtain ⟨W, hWW⟩ : ∃ W, W = W' := ⟨_, rfl⟩
      subst hWW
      have hLW := hY.bL.lt
      have eM := hY.bM.cell 0
      have eR := hY.bR.cell 0
      have eL := hY.bL.cell 0
      simp only [List.getElem?_toArray, List.getElem?_cons_zero] at eM eR eL
      gi_wp2_with (refine ⟨trivial, ?_⟩; gi_at_call 24; refine (all_in _ _).mono ?_; rintro e w' ⟨rfl, rfl⟩)
      replace hY := hY.new ((Below.refl _ W).alloc (Nat.le_refl _) (.cells #[.int .i64 0] 3))
      have bN := Blk.new W 3 #[.int .i64 0]
      replace hds := hds.only (only_of_below [] ((Below.refl _ W).alloc (Nat.le_refl _) (.cells #[.int .i64 0] 3))) (by simp)
      clear eM eR eL
      generalize W.heap.size = N2 at bN hLW ⊢
      generalize W.alloc (.cells #[.int .i64 0] 3) = W2 at hY bN hds ⊢
      have hsW : w.heap.size ≤ W2.heap.size := hY.below.size
      refine wpIn_rangeFunc_ownG rfl h1 (gf := 38) (lb := #[]) rfl trivial (enters_of Try.func38 (by kernel_rfl) rfl)
        (all_stops (n - 1) (by omega) W2) (fun _ _ => trivial) (fun _ _ _ _ _ _ _ _ => trivial) (Below.refl _ _) (fun _ => rfl)
        (YIn w m L N2 A c [{ target := .collected D, args := #[] }]) (YLeft w m L N2 A c [{ target := .collected D, args := #[] }]) (YIn.own w W2 m L N2 A c [{ target := .collected D, args := #[] }] hsW hds) (YLeft.own w W2 m L N2 A c [{ target := .collected D, args := #[] }] hsW hds) ⟨hY, bN, Nat.zero_le _, hds⟩ ?a2 ?assign2 ?body2 ?done2 ?stop2
      case assign2 =>
        intro l y W K hK
        replace hK := Lib.hid hK
        gi_wp2
        exact hK.out
      case body2 =>
        rintro l pre ⟨y, hy⟩ W ⟨hI, bN, hpl, hds⟩ hlt
        dsimp only
        have h3 : 1 ≤ n - 1 - 1 := by omega
        have eN := bN.cell 0
        have fN := bN.frozen 0
        have eM := hI.bM.cell 0
        have eR := hI.bR.cell 0
        have fR := hI.bR.frozen 0
        have eL := hI.bL.cell 0
        simp only [List.getElem?_toArray, List.getElem?_cons_zero] at eN eM eR eL
        by_cases hbr : pre.length = m
        · have hb1 : ((pre.length : Int) == (m : Int)) = true := by rw [hbr]; simp
          replace hbr := Lib.hid hbr
          gi_wp2
          exact ⟨KeepsFrom.refl _ _, .inr ⟨rfl, hI, by rw [← hbr.out]; exact bN, hds⟩⟩
        · have hb1 : ((pre.length : Int) == (m : Int)) = false := beq_eq_false_iff_ne.2 (by omega)
          have hpm : pre.length < m := by omega
          have hpi : (pre.length : Int) < (m : Int) := by omega
          have hyi : (y : Int) + 1 ≤ 1099511627776 := by omega
          clear hbr
          by_cases hyp : y = pre.length
          · subst hyp
            obtain ⟨g, rfl, hc⟩ := hI.at_ hpm
            have hLp := L_pos (pre.length + 1) (by omega)
            generalize hx : (Ytanejldglbkacaa.L (pre.length + 1) : Int) = x at hc ⊢
            have hLp2 : 1 ≤ x ∧ x ≤ 1099511627776 := by omega
            replace hx := Lib.hid hx
            have hset := hI.set hLW (.int .i64 ((pre.length : Int) + 1))
            have bset := bN.set_ 0 (.int .i64 ((pre.length : Int) + 1))
            have ho := (Only.refl [N2] W).setCell (p := ⟨N2, 0, none⟩) (.inl (by simp)) (.int .i64 ((pre.length : Int) + 1))
            have hcl : ∀ k o, k ∈ [N2] → W.heap[k]? = some o → o.isCells = true := fun k o hk hko => by rw [List.mem_singleton] at hk; subst hk; exact blk_cells bN hko
            replace hcl := Lib.hid hcl
            have hpx : Hid (YIn w m L N2 (some ⟨g, 0, none⟩) c [{ target := .collected D, args := #[] }] (pre ++ [⟨pre.length, hy⟩]) (W.setCell ⟨N2, 0, none⟩ (.int .i64 ((pre.length : Int) + 1)))) :=
              ⟨hset, by simpa using bset, by simp; omega, hds.only ho hcl.out⟩
            clear hset bset
            gi_wp2_with (refine ⟨trivial, ?_⟩; gi_at_call 13; refine ((callsIn_wide.2 (at_eq _ (pre.length + 1) x (by omega) (by omega) (by omega) hx _)).inRound l).mono ?_; rintro e w' ⟨rfl, rfl⟩)
            exact ⟨KeepsFrom.of_only ho hcl.out, trivial, hpx.out⟩
          · have hb2 : ((y : Int) + 1 != (pre.length : Int) + 1) = true := by rw [bne_iff_ne]; omega
            have hcl : ∀ k o, k ∈ [w.heap.size + 1] → W.heap[k]? = some o → o.isCells = true := fun k o hk hko => by rw [List.mem_singleton] at hk; subst hk; exact blk_cells hI.bR hko
            replace hcl := Lib.hid hcl
            replace hyp := Lib.hid hyp
            gi_wp2_with (refine ⟨trivial, ?_⟩; gi_at_call 13; refine ((callsIn_wide.2 (at_at _ (y + 1) (by omega) (by omega) (by omega) _)).inRound l).mono ?_; rintro e w' ⟨rfl, rfl⟩)
            exact ⟨KeepsFrom.of_only ((Only.refl [w.heap.size + 1] W).setCell (p := ⟨w.heap.size + 1, 0, none⟩) (.inl (by simp)) _) hcl.out, .inl ⟨rfl, pre, ⟨y, hy⟩, rfl, hyp.out⟩⟩
      case done2 =>
        rintro D ys W hD hS ⟨_, _, hle, _⟩ hK
        have := congrArg List.length hS
        simp at this
        omega
      case stop2 =>
        rintro D2 cd xs W' hD hSp hL hK
        rcases hL with ⟨rfl, pre, y, rfl, hne⟩ | ⟨rfl, hY', bN', hds'⟩
        · exact absurd (range_last hSp).2 hne
        · replace hds' := hds'.push (Nat.le_trans hsW hD) hK (fun D' hm => by have := (hds.lt hm).1; omega)
          clear hSp hK hds hY bN hsW hD hLW xs
          have eN := bN'.cell 0
          have eM := hY'.bM.cell 0
          simp only [List.getElem?_toArray, List.getElem?_cons_zero] at eN eM
          clear bN'
          gi_wp2

          rw [roundsIn_succ]
          have hE := hY'.end_ hds'
          clear hY' hds' eN eM
          have gL := hE.bL.cell 0
          simp only [List.getElem?_toArray, List.getElem?_cons_zero] at gL
          gi_wp2
          clear gL
          gi_loopw [72] (fun i wr => ∃ k : Nat, k ≤ m ∧ i = .int .i64 k ∧ YEnd w m L A c [{ target := .collected D2, args := #[] }, { target := .collected D, args := #[] }] wr) (fun i _ => m - (intOf i).toNat)
          case atStart => exact ⟨0, Nat.zero_le _, rfl, hE⟩
          case round =>
            clear hE
            obtain ⟨k, hk, rfl, hE⟩ := hrel
            have gL := hE.bL.cell 0
            have gM := hE.bM.cell 0
            simp only [List.getElem?_toArray, List.getElem?_cons_zero] at gL gM
            by_cases hlt : k < m
            · obtain ⟨g, rfl, ⟨v, hv⟩, hf, hset⟩ := hE.zero hlt
              have hlt2 : (k : Int) < (m : Int) := by omega
              clear hE
              gi_wp2
              go_roundw
              case rel => exact ⟨k + 1, by omega, by go_num, hset⟩
              case measure => simp [intOf]; omega
            · obtain rfl : k = m := by omega
              have hs3 : w.heap.size + 1 < wr.heap.size := hE.bR.lt
              gi_wp2_with (first | (refine ⟨trivial, ?_⟩; gi_at_call 23; refine (callsIn_wide.2 (first_ok _ k rfl (by omega) _)).mono ?_; rintro e w5 ⟨v5, rfl, hrow5, hB5⟩; obtain ⟨A5, c5, rfl⟩ := own_form hrow5; have hR5 := reads_nums (Reads.of_own hrow5); replace hE := hE.new hB5; clear hrow5 hB5) | (refine ⟨trivial, ?_⟩; gi_at_call 25; refine (callsIn_wide.2 (contains_no _ _ _ _ _ _ _ hR5 (by omega) (nums_ne k (by omega)))).mono ?_; rintro e w' ⟨rfl, rfl⟩) | (refine ⟨trivial, ?_⟩; gi_at_call 12; refine (callsIn_wide.2 (awake_ok _)).mono ?_; rintro e w6 ⟨rfl, hB6⟩; replace hE := hE.new hB6; clear hB6; have gR := hE.bR.cell 0; have fR := hE.bR.frozen 0; simp only [List.getElem?_toArray, List.getElem?_cons_zero] at gR))
              have hm6 := hE.marks.only (fp := [w.heap.size + 1]) ((Only.refl [w.heap.size + 1] w6).setCell (p := ⟨w.heap.size + 1, 0, none⟩) (.inl (by simp)) (.bool true)) (fun i o hi ho => by rw [List.mem_singleton] at hi; subst hi; exact blk_cells hE.bR ho)
              have hb6 := hE.below.setCell (p := ⟨w.heap.size + 1, 0, none⟩) (Nat.le_succ _) (.bool true)
              have bR6 := hE.bR.set_ 0 (.bool true)
              refine leaves_marks hm6 (fun W7 k7 => ⟨.bool true, ?_, rfl, below_ck hb6 (Nat.le_refl _) k7 (Nat.le_refl _)⟩)
              have c7 := (bR6.ck k7).cell 0
              simp at c7
              simp [results, Try.results8, go_sem, c7]
theorem law_yields (m : Int) (a1 : 0 ≤ m) (a2 : m ≤ 255) (w : World) :
    Calls Try.prog 8 #[.int .u8 m] w fun e w' => e = .returned (.bool true) ∧ Below w.heap.size w w' := by
  obtain ⟨k, rfl⟩ := Int.eq_ofNat_of_zero_le a1
  exact callsIn_wide.1 (yields_in 3 (by omega) k (by omega) w)
end Go.Proofs.Ytanejldglbkacaa
