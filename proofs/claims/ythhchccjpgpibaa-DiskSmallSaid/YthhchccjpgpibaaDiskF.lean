/- Disks: Read, Seen. -/
import Derived.Test.YthhchccjpgpibaaDiskE
import Derived.WalkMore
namespace Go.Proofs.Ythhchccjpgpibaa
open Go Go.RowKit Go.Shelf
set_option linter.unusedVariables false
set_option linter.unusedSimpArgs false
set_option maxHeartbeats 4000000
attribute [local go_sem] Oper.semAt_some
/-- All entries, written one after the other. -/
def flushW (ws : List Int) (es : List Ent) : List Int := es.foldl (fun ws x => ws.set x.1.toNat x.2.1) ws
theorem flushW_len (es : List Ent) : ∀ ws, (flushW ws es).length = ws.length := by
  induction es with
  | nil => intro ws; rfl
  | cons x es ih => intro ws; show (flushW (ws.set x.1.toNat x.2.1) es).length = _; rw [ih, List.length_set]
theorem flushW_snoc (ws : List Int) (es : List Ent) (x : Ent) : flushW ws (es ++ [x]) = (flushW ws es).set x.1.toNat x.2.1 := by simp [flushW]
theorem flushW_app (ws : List Int) (es fs : List Ent) : flushW ws (es ++ fs) = flushW (flushW ws es) fs := by simp [flushW]
/-- No entry of the last ones is of the block. -/
theorem flushW_none (ws : List Int) (es fs : List Ent) (b : Nat) (h : ∀ y ∈ fs, y.1.toNat ≠ b) : (flushW ws (es ++ fs))[b]? = (flushW ws es)[b]? := by
  induction fs generalizing es with
  | nil => rw [List.append_nil]
  | cons x fs ih =>
    rw [show es ++ x :: fs = (es ++ [x]) ++ fs from by simp, ih _ (fun y hy => h y (by simp [hy])), flushW_snoc, List.getElem?_set_ne (h x (by simp))]
theorem below_drewN {B : Nat} {w w' : World} (h : Below B w w') (n : Nat) : Below B w (w'.drewN n) := ⟨h.os, h.tape, h.output, h.size, h.block⟩
def readD (D : Dst) (b : Int) : Int := if 0 ≤ b ∧ b < D.ws.length then ((flushW D.ws D.es)[b.toNat]?).getD 0 else 0
theorem Dsk.new {w w' : World} {base d p : Nat} {v c : Value} {D : Dst} (h : Dsk w base d p v c D) (hb : Below w.heap.size w w') : Dsk w' base d p v c D := h.keep (only_of_below [] hb) (by simp)
theorem read_hit (ws : List Int) (es pre : List Ent) (y : Ent) (b : Nat) (hb : b < ws.length) (h0 : ∀ z ∈ es, 0 ≤ z.1) (h1 : pre = es.reverse.take pre.length) (h2 : es.reverse[pre.length]? = some y) (h3 : ∀ z ∈ pre, z.1 ≠ (b : Int)) (hy : y.1 = (b : Int)) :
    (flushW ws es)[b]? = some y.2.1 := by
  obtain ⟨hl, hg⟩ := List.getElem?_eq_some_iff.1 h2
  have he : es.reverse = pre ++ y :: es.reverse.drop (pre.length + 1) := by
    conv => lhs; rw [← List.take_append_drop pre.length es.reverse]
    rw [← h1, List.drop_eq_getElem_cons hl, hg]
  have he2 : es = ((es.reverse.drop (pre.length + 1)).reverse ++ [y]) ++ pre.reverse := by
    have := congrArg List.reverse he
    simpa using this
  rw [he2, flushW_none _ _ _ _ (fun z hz => ?_), flushW_snoc, hy, Int.toNat_natCast, List.getElem?_set_self (by rw [flushW_len]; exact hb)]
  have hz' : z ∈ pre := by simpa using hz
  have := h3 z hz'
  have := h0 z (by rw [he2]; simp [hz'])
  omega
theorem read_miss (ws : List Int) (es pre : List Ent) (b : Nat) (h0 : ∀ z ∈ es, 0 ≤ z.1) (h1 : pre = es.reverse.take pre.length) (h2 : pre.length = es.length) (h3 : ∀ z ∈ pre, z.1 ≠ (b : Int)) :
    (flushW ws es)[b]? = ws[b]? := by
  have he : pre = es.reverse := by rw [h1, h2, ← List.length_reverse, List.take_length]
  have := flushW_none ws [] es b (fun z hz => by
    have := h3 z (by rw [he]; simpa using hz)
    have := h0 z hz
    omega)
  simpa [flushW] using this
/-- What the range of Read keeps. -/
def RIn (w : World) (base d p : Nat) (v c : Value) (D : Dst) (Bd bb o : Nat) (b : Int) (fp : List Nat) (pre : List Ent) (W : World) : Prop :=
  fp = [] ∧ Blk W Bd 25 #[.pointer (some ⟨d, 0, none⟩)] ∧ Dsk W base d p v c D ∧ Below w.heap.size w W ∧ Blk W bb 3 #[.int .i64 b] ∧ Blk W o 36 #[.int .u32 ((D.ws[b.toNat]?).getD 0)] ∧ pre = D.es.reverse.take pre.length ∧ ∀ y ∈ pre, y.1 ≠ b
def RLeft (w : World) (D : Dst) (o : Nat) (b : Int) (c : Code) (W : World) : Prop :=
  c = .exit 0 ∧ Below w.heap.size w W ∧ Blk W o 36 #[.int .u32 (readD D b)]
section
variable {w W W' : World} {base d p : Nat} {v c : Value} {D : Dst} {Bd bb o B : Nat} {b : Int} {fp : List Nat} {pre : List Ent}
theorem Dsk.ck (h : Dsk W base d p v c D) (k : CellsKept B W W') : Dsk W' base d p v c D := ⟨h.hd.ck k, h.hp.ck k, own_ck h.hv k, own_ck h.hc k, h.bd, h.bp, h.ok⟩
theorem RIn.ck (h : RIn w base d p v c D Bd bb o b fp pre W) (hB : w.heap.size ≤ B) (k : CellsKept B W W') : RIn w base d p v c D Bd bb o b fp pre W' :=
  ⟨h.1, h.2.1.ck k, h.2.2.1.ck k, below_ck h.2.2.2.1 (Nat.le_refl _) k hB, h.2.2.2.2.1.ck k, h.2.2.2.2.2.1.ck k, h.2.2.2.2.2.2⟩
theorem RLeft.ck {cd : Code} (h : RLeft w D o b cd W) (hB : w.heap.size ≤ B) (k : CellsKept B W W') : RLeft w D o b cd W' :=
  ⟨h.1, below_ck h.2.1 (Nat.le_refl _) k hB, h.2.2.ck k⟩
end
set_option maxRecDepth 100000 in
theorem read_in (m : Nat) {w : World} {base d p : Nat} {v c : Value} {D : Dst} (h : Dsk w base d p v c D) (b : Int) (hb : -9223372036854775808 ≤ b ∧ b ≤ 9223372036854775807) :
    CallsIn Fence.wide m Try.prog 18 #[.pointer (some ⟨d, 0, none⟩), .int .i64 b] w fun e w' => e = .returned (.int .u32 (readD D b)) ∧ Below w.heap.size w w' := by
  refine callsIn_of_wp_marks Try.func18 rfl trivial ?_ rfl
  simp only [Try.ntmps18, List.size_toArray, List.length_cons, List.length_nil, Nat.reduceAdd, Nat.reduceSub, Array.replicate_succ, Array.replicate_zero, List.push_toArray, List.append_toArray, List.nil_append, List.cons_append]
  refine wpIn_wide.2 ?_
  have c0 := h.c0
  have c2 := h.c2
  have p0 := h.p0
  obtain ⟨A, cap, rfl⟩ := own_form h.hv
  have hn1 := h.ok.n1
  have hn2 := h.ok.n2
  have hdl := h.hd.lt
  have hpl := h.hp.lt
  by_cases hn : b < 0
  · have hn1 : decide (b < 0) = true := by simp [hn]
    clear c0 c2 p0
    go_wp2
    go_step3
    go_wp2
    go_quiet (fail)
    go_wp2
    rw [Exit.noGoto_ret]
    refine ⟨.int .u32 0, by simp [results, Try.results18, go_sem], by unfold readD; rw [if_neg (by omega)], ?_⟩
    exact below_drewN ((Below.refl _ w).alloc (Nat.le_refl _) _) _
  · by_cases hN : (D.ws.length : Int) ≤ b
    · have hn1 : decide (b < 0) = false := by simp [hn]
      have hn3 : decide ((D.ws.length : Int) ≤ b) = true := by simp [hN]
      go_wp2
      go_step3
      go_wp2
      go_quiet (fail)
      go_wp2
      rw [Exit.noGoto_ret]
      refine ⟨.int .u32 0, by simp [results, Try.results18, go_sem], by unfold readD; rw [if_neg (by omega)], ?_⟩
      exact below_drewN ((Below.refl _ w).alloc (Nat.le_refl _) _) _
    · have hn1 : decide (b < 0) = false := by simp [hn]
      have hn3 : decide ((D.ws.length : Int) ≤ b) = false := by simp; omega
      obtain ⟨k, rfl⟩ := Int.eq_ofNat_of_zero_le (Int.not_lt.1 hn)
      have hk : k < D.ws.length := by omega
      obtain ⟨ad, u, rfl, hal, hu, huc⟩ := (Reads.of_own h.hv).at_ hk
      have hab : (ad.add k).block < w.heap.size := by rw [block_of_add]; exact hal
      obtain ⟨x, hx, rfl⟩ : ∃ x, D.ws[k]? = some x ∧ u = .int .u32 x := by
        rw [List.getElem?_map] at hu
        cases hx : D.ws[k]? with
        | none => rw [hx] at hu; cases hu
        | some x => rw [hx] at hu; exact ⟨x, rfl, by simpa using hu.symm⟩
      have hn4 : decide (D.ws.length ≤ k) = false := by simp; omega
      go_wp2
      go_step3
      go_wp2
      go_quiet (fail)
      go_wp2
      go_region
      clear huc p0 c0 c2 hu
      have hD0 := h.new ((below_drewN ((Below.refl _ w).alloc (Nat.le_refl _) (.cells #[.int .i64 k] 3)) (nq + 1)).alloc (by simp) (.cells #[.int .u32 x] 36))
      have hB0 := (below_drewN ((Below.refl _ w).alloc (Nat.le_refl _) (.cells #[.int .i64 k] 3)) (nq + 1)).alloc (by simp) (.cells #[.int .u32 x] 36)
      have hbb := ((Blk.new w 3 #[.int .i64 k]).drewN (nq + 1)).alloc (.cells #[.int .u32 x] 36)
      have hbo := Blk.new ((w.alloc (.cells #[.int .i64 k] 3)).drewN (nq + 1)) 36 #[.int .u32 x]
      rw [show ((w.alloc (.cells #[.int .i64 k] 3)).drewN (nq + 1)).heap.size = w.heap.size + 1 from by simp] at hbo
      generalize ((w.alloc (.cells #[.int .i64 k] 3)).drewN (nq + 1)).alloc (.cells #[.int .u32 x] 36) = w1 at *
      go_wp2
      go_step3
      go_wp2_with (go_at_call 37; refine (callsIn_wide.1 (back37 0 d _)).mono ?_; rintro e w2 ⟨rfl, rfl⟩)
      rename_i hcont
      have hs1 : w.heap.size + 1 < w1.heap.size := hbo.lt
      have hR0 : RIn w base d p (.slice (some ad) D.ws.length cap) c D w1.heap.size w.heap.size (w.heap.size + 1) k [] [] (w1.alloc (.cells #[.pointer (some ⟨d, 0, none⟩)] 25)) :=
        ⟨rfl, Blk.new _ _ _, hD0.new ((Below.refl _ _).alloc (Nat.le_refl _) _), hB0.alloc hB0.size _, hbb.alloc _, by simpa [hx] using hbo.alloc _, by simp, by simp⟩
      obtain ⟨A2, n2, c2, rfl⟩ : ∃ A n c', c = .slice A n c' := by
        obtain ⟨A, c', e⟩ := own_form h.hc
        exact ⟨A, _, c', e⟩
      have hn2 : D.es.length = n2 := by
        obtain ⟨A, c', e⟩ := own_form h.hc
        cases e
        rfl
      clear hD0 hB0 hbb
      replace hcont := Lib.hid hcont
      refine (wpIn_wide (n := m)).1 ?_
      refine wpIn_range rfl (enters_of Try.func47 (by kernel_rfl) rfl) (seq47 base w1.heap.size d p _ A2 n2 c2 D hn2) (fun _ => rfl)
        (RIn w base d p (.slice (some ad) D.ws.length cap) (.slice A2 n2 c2) D w1.heap.size w.heap.size (w.heap.size + 1) k) (fun c _ W => RLeft w D (w.heap.size + 1) k c W)
        (fun fp => ownFrom_of fun s W W' kk hI => hI.ck (by simp; omega) kk) (fun c => ownFrom_of fun s W W' kk hI => hI.ck (by simp; omega) kk) (fun fp pre W hI => ⟨hI.2.1, hI.2.2.1⟩) [] (by simp) hR0
        (Ax1 38 (fun x => (encE x).toArray) (fun pre x => D.es.reverse[pre.length]? = some x) (fun y N => { tmps := #[Value.pointer (some { block := d, off := 0 }), Value.int IntKind.i64 ↑k, undef, Value.pointer (some { block := w.heap.size, off := 0 }), Value.int IntKind.u32 0, Value.pointer (some { block := w.heap.size + 1, off := 0 }), Value.pointer (some { block := N, off := 0 }), Value.pointer (some { block := d, off := 0 }), Value.bool false, Value.bool false, Value.int IntKind.i64 ↑k, Value.bool false, Value.bool false, Value.bool false, Value.int IntKind.i64 ↑k, Value.pointer (some { block := d, off := 0 }), Value.pointer (some { block := d, off := 0 }), Value.pointer (some { block := d, off := 0 }), Value.pointer (some { block := p, off := 0 }), Value.pointer (some { block := p, off := 0 }), Value.slice (some ad) D.ws.length cap, Value.int IntKind.i64 ↑D.ws.length, Value.bool false, Value.bool false, Value.pointer (some { block := d, off := 0 }), Value.pointer (some { block := d, off := 0 }), Value.pointer (some { block := d, off := 0 }), Value.pointer (some { block := p, off := 0 }), Value.pointer (some { block := p, off := 0 }), Value.slice (some ad) D.ws.length cap, Value.int IntKind.i64 ↑k, Value.pointer (some (ad.add k)), Value.int IntKind.u32 x, Value.pointer (some { block := d, off := 0 }), Value.func (Fn.func 47) #[] #[Value.pointer (some { block := w1.heap.size, off := 0 })], aggE y, undef, undef, undef, undef, undef, undef, undef], defers := [] })) own_ax1 ?assign ?body ?done ?hE ?stop
      case assign =>
        intro l2 m2 fp pre x W2 K hI hX hK
        replace hK := Lib.hid hK
        simp only [aggE]
        gi_wp2
        have hnew := Blk.new W2 38 (encE x).toArray
        have hI2 := hI.ck (Nat.le_refl _) (cellsKept_of_grown (World.grownBy_alloc W2 (.cells (encE x).toArray 38) none) (fun r e => by cases e))
        have hfin := fun a' h => hK.out a' _ ((Only.refl [] _).alloc _) hI2 ⟨_, h, hnew, hX⟩
        clear hnew
        generalize W2.heap.size = N at hfin ⊢
        exact hfin _ rfl
      case body =>
        rintro l2 m2 fp pre ⟨y1, y2, y3⟩ a' W2 hI ⟨N, rfl, hN2, hX⟩
        obtain ⟨rfl, hI1, hI2, hI3, hI4, hI5, hI6, hI7⟩ := hI
        dsimp only [aggE, encE] at hN2 hX ⊢
        have f0 := hI4.cell 0
        have f1 := hN2.cell 0
        have f2 := hN2.cell 1
        have fo := hI5.cell 0
        have ff := hI5.frozen 0
        simp only [List.getElem?_toArray, List.getElem?_cons_zero, List.getElem?_cons_succ] at f0 f1 f2 fo
        by_cases he : y1 = (k : Int)
        · have hok := hI2.ok.eb
          have hrd : readD D k = y2 := by
            unfold readD
            rw [if_pos (by omega), Int.toNat_natCast, read_hit D.ws D.es pre (y1, y2, y3) k hk (fun z hz => (hok z hz).1) hI6 hX hI7 he]
            rfl
          subst he
          have hset := hI5.set_ 0 (.int .u32 y2)
          rw [← hrd] at hset
          have hB3 := hI3.setCell (p := ⟨w.heap.size + 1, 0, none⟩) (Nat.le_succ _) (.int .u32 (readD D k))
          have hO3 := (Only.refl [w.heap.size + 1] W2).setCell (p := ⟨w.heap.size + 1, 0, none⟩) (.inl (by simp)) (.int .u32 (readD D k))
          clear hok hI1 hI2 hI3 hI4 hI5 hI6 hI7 hX
          subst hrd
          gi_wp2
          exact ⟨⟨[w.heap.size + 1], by simp; omega, by simpa using hO3⟩, rfl, hB3, by simpa using hset⟩
        · have hne : (y1 == (k : Int)) = false := by simpa using he
          have hne2 : decide (y1 = (k : Int)) = false := by simpa using he
          gi_wp2
          refine ⟨Only.refl _ _, [], ⟨rfl, hI1, hI2, hI3, hI4, hI5, ?_, ?_⟩, by simp⟩
          · rw [List.length_append, List.length_singleton, List.take_add_one, hX, ← hI6]; rfl
          · intro z hz
            rcases List.mem_append.1 hz with hz | hz
            · exact hI7 z hz
            · rw [List.mem_singleton] at hz; subst hz; exact he
      case done =>
        rintro Dd fp xs W2 hDd hlen ⟨rfl, hI1, hI2, hI3, hI4, hI5, hI6, hI7⟩ hDm
        refine hcont.out _ _ ?_
        clear hcont
        have hok := hI2.ok.eb
        have hrd : readD D k = x := by
          unfold readD
          rw [if_pos (by omega), Int.toNat_natCast, read_miss D.ws D.es xs k (fun z hz => (hok z hz).1) hI6 (by omega) hI7, hx]
          rfl
        rw [Int.toNat_natCast, hx, Option.getD_some] at hI5
        have fo := hI5.cell 0
        simp only [List.getElem?_toArray, List.getElem?_cons_zero] at fo
        subst hrd
        clear hI1 hI2 hI4 hI6 hI7 hok
        go_wp2
        rw [Exit.noGoto_ret]
        refine leaves_one hDm ⟨.int .u32 (readD D k), by simp [results, Try.results18, go_sem], rfl, below_ck hI3 (Nat.le_refl _) (CellsKept.putObj (B := w.heap.size) W2 _ hDm rfl (by simp at hDd; omega)) (Nat.le_refl _)⟩
      case hE => intro _ _ _ _ _ _ _ _ h; exact h
      case stop =>
        rintro Dd c pre W2 hDd ⟨rfl, hI3, hI5⟩ hDm
        have fo := hI5.cell 0
        simp only [List.getElem?_toArray, List.getElem?_cons_zero] at fo
        refine wpIn_wide.2 ?_
        go_wp2
        refine hcont.out _ _ ?_
        clear hcont
        go_wp2
        rw [Exit.noGoto_ret]
        refine leaves_one hDm ⟨.int .u32 (readD D k), by simp [results, Try.results18, go_sem], rfl, below_ck hI3 (Nat.le_refl _) (CellsKept.putObj (B := w.heap.size) W2 _ hDm rfl (by simp at hDd; omega)) (Nat.le_refl _)⟩
theorem read_dsk {w : World} {base d p : Nat} {v c : Value} {D : Dst} (h : Dsk w base d p v c D) (b : Int) (hb : -9223372036854775808 ≤ b ∧ b ≤ 9223372036854775807) :
    Calls Try.prog 18 #[.pointer (some ⟨d, 0, none⟩), .int .i64 b] w fun e w' => e = .returned (.int .u32 (readD D b)) ∧ Below w.heap.size w w' :=
  callsIn_wide.1 (read_in 3 h b hb)
end Go.Proofs.Ythhchccjpgpibaa
