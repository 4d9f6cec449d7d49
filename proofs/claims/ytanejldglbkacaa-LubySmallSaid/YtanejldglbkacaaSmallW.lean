/- LubySmall: the walk. -/
import Derived.Test.YtanejldglbkacaaOff
import Derived.BigRegion
import Derived.Deep.RegionHeld3
import Derived.Deep.DeepCutAuto
namespace Go.Proofs.Ytanejldglbkacaa
open Go Go.RowKit Go.Shelf
set_option linter.unusedVariables false
set_option linter.unusedSimpArgs false
attribute [local go_sem] Oper.semAt_some
/-- The result's cell, and what lay below. -/
def SI (w : World) (W : World) : Prop := Blk W w.heap.size 4 #[.bool false] ∧ Below w.heap.size w W
theorem SI.new {w W W' : World} (h : SI w W) (k : Below W.heap.size W W') : SI w W' := ⟨h.1.below k h.1.lt, h.2.trans (k.mono h.2.size)⟩
theorem SI.ck {w W W' : World} (h : SI w W) {B : Nat} (k : CellsKept B W W') (hB : w.heap.size ≤ B) : SI w W' := ⟨h.1.ck k, below_ck h.2 (Nat.le_refl _) k hB⟩
theorem SI.set {w W : World} (h : SI w W) {N : Nat} (hN : w.heap.size < N) (u : Value) : SI w (W.setCell ⟨N, 0, none⟩ u) :=
  ⟨h.1.far (p := ⟨N, 0, none⟩) (by show _ ≠ N; omega) u, h.2.setCell (p := ⟨N, 0, none⟩) (by show _ ≤ N; omega) u⟩
theorem rat_eq (x : Int) (n : Nat) (v : Int) (hx : x = n) (h : n ≤ 1099511627776) (hv : Hid ((L n : Int) = v)) (w : World) : Calls Try.prog 29 #[.int .i64 x] w fun e w' => e = .returned (.int .i64 v) ∧ w = w' := by
  rw [← hv.out]; exact rat_at x n hx h w
theorem S_two (k : Nat) (h1 : 1 ≤ k) (hk : k ≤ 40) : ((S (2 ^ k - 1) : Nat) : Int) = wrap64 ((k : Int) * 2 ^ (k - 1)) := by
  obtain ⟨i, rfl⟩ : ∃ i, k = i + 1 := ⟨k - 1, by omega⟩
  have e : S (2 ^ (i + 1) - 1) = (i + 1) * 2 ^ i := by rw [show 2 ^ (i + 1) - 1 = 2 * 2 ^ i - 1 by rw [Nat.pow_succ]; omega, S_block]
  have hb := S_top (2 ^ (i + 1) - 1) (by have := p2_le (i + 1) hk; omega)
  have e2 : ((i + 1 : Nat) : Int) * 2 ^ (i + 1 - 1) = ((S (2 ^ (i + 1) - 1) : Nat) : Int) := by rw [e]; simp
  rw [e2]
  generalize S (2 ^ (i + 1) - 1) = x at hb
  unfold wrap64
  omega
/-- A row of numbers. -/
def RowV (W : World) (B n : Nat) : Prop := B < W.heap.size ∧ ∀ k, k < n → ∃ v, W.cell? ⟨B, k, none⟩ = some (.int .i64 v)
theorem RowV.keep {W W' : World} {B n : Nat} (h : RowV W B n) (hb : Below W.heap.size W W') : RowV W' B n :=
  ⟨Nat.lt_of_lt_of_le h.1 hb.size, fun k hk => by
    obtain ⟨v, hv⟩ := h.2 k hk
    exact ⟨v, (hb.cell (p := ⟨B, k, none⟩) h.1).trans hv⟩⟩
theorem rowV_new (w : World) (l : List Int) (t : TypeId) : RowV (w.alloc (.cells (l.map (Value.int .i64)).toArray t)) w.heap.size l.length :=
  ⟨by simp, fun k hk => by rw [World.cell?_alloc_at _ _ _ _ rfl]; exact ⟨l[k], by simp [hk]⟩⟩
def SIn (w : World) (N : Nat) (pre : List NumIx) (W : World) : Prop := SI w W ∧ Blk W N 3 #[.int .i64 (pre.length : Int)] ∧ pre.length ≤ 999
def SLeft (w : World) (N : Nat) (cd : Code) (xs : List NumIx) (W : World) : Prop :=
  (cd = .ret ∧ ∃ pre y, xs = pre ++ [y] ∧ y.1 ≠ pre.length) ∨ (cd = .exit 8 ∧ SI w W ∧ Blk W N 3 #[.int .i64 1000])
theorem SIn.own (w w0 : World) (N : Nat) (hs : w.heap.size ≤ w0.heap.size) : OwnFrom w0.heap.size (SIn w N) :=
  ownFrom_of fun s W W' k h => ⟨h.1.ck k hs, h.2.1.ck k, h.2.2⟩
theorem SLeft.own (w w0 : World) (N : Nat) (hs : w.heap.size ≤ w0.heap.size) (cd : Code) : OwnFrom w0.heap.size (SLeft w N cd) :=
  ownFrom_of fun s W W' k h => by
    rcases h with h | ⟨h0, h1, h2⟩
    · exact .inl h
    · exact .inr ⟨h0, h1.ck k hs, h2.ck k⟩
theorem off_row (W : World) : ∀ k, k < 2 → ∃ p, ((W.alloc (.cells #[.int .i64 0, .int .i64 0, .int .i64 0, .int .i64 0, .bool false] 53)).alloc (.cells #[.pointer none, .pointer (some ⟨W.heap.size, 0, none⟩)] 33)).cell? ⟨W.heap.size + 1, k, none⟩ = some (.pointer p) ∧
    Off p ((W.alloc (.cells #[.int .i64 0, .int .i64 0, .int .i64 0, .int .i64 0, .bool false] 53)).alloc (.cells #[.pointer none, .pointer (some ⟨W.heap.size, 0, none⟩)] 33)) := by
  intro k hk
  have hB := Blk.new (W.alloc (.cells #[.int .i64 0, .int .i64 0, .int .i64 0, .int .i64 0, .bool false] 53)) 33 #[.pointer none, .pointer (some ⟨W.heap.size, 0, none⟩)]
  have hO := (Blk.new W 53 #[.int .i64 0, .int .i64 0, .int .i64 0, .int .i64 0, .bool false]).alloc (.cells #[.pointer none, .pointer (some ⟨W.heap.size, 0, none⟩)] 33)
  rw [World.size_alloc] at hB
  rw [hB.cell k]
  have : k = 0 ∨ k = 1 := by omega
  rcases this with rfl | rfl
  · exact ⟨none, rfl, .inl rfl⟩
  · exact ⟨_, rfl, .inr ⟨_, rfl, hO⟩⟩
set_option maxRecDepth 100000 in
set_option maxHeartbeats 8000000 in
theorem small_in (n : Nat) (hn : 3 ≤ n) (w : World) :
    CallsIn Fence.wide n Try.prog 10 #[] w fun e w' => e = .returned (.bool true) ∧ Below w.heap.size w w' := by
  have h1 : 1 ≤ n := by omega
  refine callsIn_of_wp_marks Try.func10 rfl trivial ?_ rfl
  simp only [Try.ntmps10, List.size_toArray, List.length_cons, List.length_nil, Nat.reduceAdd, Nat.reduceSub, Array.replicate_succ, Array.replicate_zero, List.push_toArray, List.append_toArray, List.nil_append, List.cons_append]
  refine wpIn_wide.2 ?_
  go_wp2
  have hS : SI w (w.alloc (.cells #[.bool false] 4)) := ⟨Blk.new _ _ _, (Below.refl _ _).alloc (Nat.le_refl _) _⟩
  generalize w.alloc (.cells #[.bool false] 4) = W at hS ⊢
  go_loopw [21] (fun i wr => ∃ k : Nat, k ≤ 600 ∧ i = .int .i64 k ∧ SI w wr) (fun i _ => 600 - (intOf i).toNat)
  case atStart => exact ⟨0, by omega, rfl, hS⟩
  case round =>
    clear hS
    obtain ⟨k, hk, rfl, hS⟩ := hrel
    by_cases hlt : k < 600
    · have k0 : 0 ≤ (k : Int) := by omega
      have k1 : (k : Int) < 600 := by omega
      have k2 : 0 ≤ (k : Int) % 8 := by omega
      have k3 : (k : Int) % 8 ≤ 7 := by omega
      have k4 : 0 ≤ (k : Int) % 97 := by omega
      have k5 : (k : Int) % 97 ≤ 255 := by omega
      by_cases h10 : (k : Int) % 10 = 0
      · have hb : ((k : Int) % 10 == 0) = true := beq_iff_eq.2 h10
        replace h10 := Lib.hid h10
        go_wp2_with (first | (go_at_call 26; refine (tells_any _ _ _).mono ?_; rintro e w2 ⟨rfl, hb3⟩; replace hS := hS.new hb3; clear hb3) | (go_at_call 11; refine (conflicts_any _ _ k4 k5 _).mono ?_; rintro e w3 ⟨rfl, hb3⟩; replace hS := hS.new hb3; clear hb3))
        go_roundw
        case rel => exact ⟨k + 1, by omega, by go_num, hS⟩
        case measure => simp [intOf]; omega
      · have hb : ((k : Int) % 10 == 0) = false := beq_eq_false_iff_ne.2 h10
        replace h10 := Lib.hid h10
        go_wp2_with (first | (go_at_call 26; refine (tells_any _ _ _).mono ?_; rintro e w2 ⟨rfl, hb3⟩; replace hS := hS.new hb3; clear hb3) | (go_at_call 11; refine (conflicts_any _ _ k4 k5 _).mono ?_; rintro e w3 ⟨rfl, hb3⟩; replace hS := hS.new hb3; clear hb3))
        go_roundw
        case rel => exact ⟨k + 1, by omega, by go_num, hS⟩
        case measure => simp [intOf]; omega
    · obtain rfl : k = 600 := by omega
      clear hlt hk
      simp only [show ((600 : Nat) : Int) = 600 from rfl]
      go_wp2_with (first | (go_at_call 23; refine (first_ok _ 4096 rfl (by omega) _).mono ?_; rintro e w3 ⟨v3, rfl, hrow, hb3⟩; obtain ⟨A3, c3, rfl⟩ := own_form hrow; have hr3 := reads_nums (Reads.of_own hrow); replace hS := hS.new hb3; clear hb3 hrow) | (go_at_call 28; refine (rfirst_ok 4096 (by omega) _).mono ?_; rintro e w8 ⟨A8, c8, rfl, hr8, hb3⟩; replace hS := hS.new hb3; replace hr3 := (hr3.below hb3).more hb3.size; clear hb3) | (go_at_call 27; refine (equal_true A3 A8 4096 c3 c8 _ _ _ _ hr3 (reads_nums hr8) (by omega)).mono ?_; rintro e w9 ⟨rfl, d, rfl⟩; replace hS := hS.new (below_drewN (Below.refl _ _) d); clear hr3 hr8))
      generalize w8.drewN d = W5 at hS ⊢
      clear wr
      go_loopw [63] (fun i wr => ∃ k : Nat, k ≤ 41 ∧ i = .int .i64 k ∧ SI w wr) (fun i _ => 41 - (intOf i).toNat)
      case atStart => exact ⟨0, by omega, rfl, hS⟩
      case round =>
        clear hS
        obtain ⟨k, hk, rfl, hS⟩ := hrel
        by_cases hlt : k < 41
        · have k0 : 0 ≤ (k : Int) := by omega
          have k1 : (k : Int) < 41 := by omega
          have hp := p2_le k (by omega)
          have hP1 : 1 ≤ (2 : Int) ^ k := by have : (2 : Int) ^ k = ((2 ^ k : Nat) : Int) := by simp
                                             omega
          have hP2 : (2 : Int) ^ k ≤ 1099511627776 := by have : (2 : Int) ^ k = ((2 ^ k : Nat) : Int) := by simp
                                                         omega
          clear hp
          go_wp2_with fail
          go_region_held3 (fun _ => True) (trivial) (fail)
          generalize IntKind.i64.wrap (IntKind.i64.wrap (2 ^ k) - 2) = q1
          generalize IntKind.i64.wrap (IntKind.i64.wrap (2 ^ k) - 1) = q2
          generalize IntKind.i64.wrap (IntKind.i64.wrap (2 ^ k) + 1) = q4
          generalize IntKind.i64.wrap (2 ^ k) = q3
          have hr := rowV_new wr [q1, q2, q3, q4] 3
          replace hS := hS.new ((Below.refl _ wr).alloc (Nat.le_refl _) (.cells (List.map (Value.int .i64) [q1, q2, q3, q4]).toArray 3)).drew
          simp only [List.map, List.length_cons, List.length_nil] at hr hS
          generalize hW6 : (wr.alloc (.cells #[.int .i64 q1, .int .i64 q2, .int .i64 q3, .int .i64 q4] 3)).drew = W6 at hS ⊢
          replace hr : RowV W6 wr.heap.size 4 := by rw [← hW6]; exact hr
          clear hW6
          generalize wr.heap.size = B at hr ⊢
          go_wp2_with fail
          go_loopw [79] (fun i wr => ∃ j : Nat, j ≤ 4 ∧ i = .int .i64 j ∧ SI w wr ∧ RowV wr B 4) (fun i _ => 4 - (intOf i).toNat)
          case atStart => exact ⟨0, by omega, rfl, hS, hr⟩
          case round =>
            clear hS hr
            obtain ⟨j, hj, rfl, hS, hr⟩ := hrel
            by_cases hlj : j < 4
            · obtain ⟨v, hv⟩ := hr.2 j hlj
              by_cases hg : 1 ≤ v ∧ v ≤ 1099511627776
              · obtain ⟨p, rfl⟩ := Int.eq_ofNat_of_zero_le (show 0 ≤ v by omega)
                have hL := L_pos p (by omega)
                have hL2 : 0 < (L p : Int) := by omega
                have hL3 : ((L p : Int) == 0) = false := beq_eq_false_iff_ne.2 (by omega)
                have hL4 : decide (0 < L p) = true := by simp; omega
                obtain ⟨g1, g2⟩ := hg
                go_wp2_with (first | (go_at_call 13; refine (at_ok p (by omega) (by omega) _).mono ?_; rintro e w' ⟨rfl, rfl⟩) | (go_at_call 29; refine (rat_ok p (by omega) _).mono ?_; rintro e w' ⟨rfl, rfl⟩))
                go_roundw
                case rel => exact ⟨j + 1, by omega, by go_num, hS, hr⟩
                case measure => simp [intOf]; omega
              · have hg2 : Hid (v < 1 ∨ 1099511627776 < v) := by show _ ∨ _; omega
                clear hg
                go_wp2_with (first | (go_at_call 13; refine (at_bad _ hg2.out _).mono ?_; rintro e w' ⟨rfl, rfl⟩) | (go_at_call 29; refine (rat_bad _ hg2.out _).mono ?_; rintro e w' ⟨rfl, rfl⟩))
                go_roundw
                case rel => exact ⟨j + 1, by omega, by go_num, hS, hr⟩
                case measure => simp [intOf]; omega
            · obtain rfl : j = 4 := by omega
              clear hlj hj hr
              simp only [show ((4 : Nat) : Int) = 4 from rfl]
              have hpk : (2 : Int) ^ k = ((2 ^ k : Nat) : Int) := by simp
              replace hpk := Lib.hid hpk
              by_cases hz : k = 0
              · subst hz
                go_wp2_with (go_at_call 14; refine (sum_at _ 0 rfl (by omega) _).mono ?_; rintro e w3 ⟨rfl, hb3⟩; replace hS := hS.new hb3; clear hb3)
                go_roundw
                case rel => exact ⟨1, by omega, rfl, hS⟩
                case measure => simp [intOf]
              · have hz1 : 0 < (k : Int) := by omega
                have hsv := Lib.hid (S_two k (by omega) (by omega))
                go_wp2_with (go_at_call 14; refine (sum_eq _ (2 ^ k - 1) _ (by rw [hpk.out]; have := pow_pos2 k; omega) (by have := hpk.out; omega) hsv _).mono ?_; rintro e w3 ⟨rfl, hb3⟩; replace hS := hS.new hb3; clear hb3)
                go_roundw
                case rel => exact ⟨k + 1, by omega, by go_num, hS⟩
                case measure => simp [intOf]; omega
        · obtain rfl : k = 41 := by omega
          clear hlt hk
          simp only [show ((41 : Nat) : Int) = 41 from rfl]
          go_wp2_with fail
          have hr := rowV_new wr [-9223372036854775808, -1, 0, 1099511627776, 1099511627777, 9223372036854775807] 3
          replace hS := hS.new ((Below.refl _ wr).alloc (Nat.le_refl _) (.cells (List.map (Value.int .i64) [-9223372036854775808, -1, 0, 1099511627776, 1099511627777, 9223372036854775807]).toArray 3))
          simp only [List.map, List.length_cons, List.length_nil, Nat.reduceAdd] at hr hS
          generalize wr.alloc _ = W6 at hr hS ⊢
          generalize wr.heap.size = B at hr ⊢
          go_loopw [125] (fun i wr => ∃ j : Nat, j ≤ 6 ∧ i = .int .i64 j ∧ SI w wr ∧ RowV wr B 6) (fun i _ => 6 - (intOf i).toNat)
          case atStart => exact ⟨0, by omega, rfl, hS, hr⟩
          case round =>
            clear hS hr
            obtain ⟨j, hj, rfl, hS, hr⟩ := hrel
            by_cases hlj : j < 6
            · obtain ⟨v, hv⟩ := hr.2 j hlj
              go_wp2_with (first | (go_at_call 26; refine (tells_any _ _ _).mono ?_; rintro e w2 ⟨rfl, hb3⟩; replace hS := hS.new hb3; replace hr := hr.keep hb3; clear hb3) | (go_at_call 11; refine (conflicts_any _ _ (by omega) (by omega) _).mono ?_; rintro e w3 ⟨rfl, hb3⟩; replace hS := hS.new hb3; replace hr := hr.keep hb3; clear hb3))
              go_roundw
              case rel => exact ⟨j + 1, by omega, by go_num, hS, hr⟩
              case measure => simp [intOf]; omega
            · obtain rfl : j = 6 := by omega
              clear hlj hj hr
              simp only [show ((6 : Nat) : Int) = 6 from rfl]
              go_wp2_with (first | (go_at_call 11; refine (conflicts_any _ _ (by omega) (by omega) _).mono ?_; rintro e w3 ⟨rfl, hb3⟩; replace hS := hS.new hb3; clear hb3) | (go_at_call 24; refine (callsIn_wide.1 (all_in 0 _)).mono ?_; rintro e w' ⟨rfl, rfl⟩))
              have hN : w.heap.size < w3.heap.size := hS.1.lt
              replace hS := hS.new ((Below.refl _ _).alloc (Nat.le_refl _) (.cells #[.int .i64 0] 3))
              have bN := Blk.new w3 3 #[.int .i64 0]
              generalize w3.heap.size = N at bN hN ⊢
              generalize w3.alloc (.cells #[.int .i64 0] 3) = W8 at bN hS ⊢
              have hs8 : w.heap.size ≤ W8.heap.size := hS.2.size
              have h3 : 1 ≤ n - 1 - 1 := by omega
              refine (wpIn_wide (n := n)).1 ?_
              refine wpIn_rangeFunc_ownG rfl h1 (gf := 38) (lb := #[]) rfl trivial (enters_of Try.func38 (by kernel_rfl) rfl)
                (all_stops (n - 1) (by omega) W8) (fun _ _ => trivial) (fun _ _ _ _ _ _ _ _ => trivial) (Below.refl _ _) (fun _ => rfl)
                (SIn w N) (SLeft w N) (SIn.own w W8 N hs8) (SLeft.own w W8 N hs8) ⟨hS, bN, by simp⟩ ?a1 ?assign ?body ?done ?stop
              case assign =>
                intro l y W K hK
                replace hK := Lib.hid hK
                gi_wp2
                exact hK.out
              case body =>
                rintro l pre ⟨y, hy⟩ W ⟨hI, bN, hpl⟩ hlt
                dsimp only
                have eN := bN.cell 0
                have fN := bN.frozen 0
                have fR := hI.1.frozen 0
                simp only [List.getElem?_toArray, List.getElem?_cons_zero] at eN
                have eR := (hI.1.far (p := ⟨N, 0, none⟩) (by show _ ≠ N; omega) (.int .i64 ((pre.length : Int) + 1))).cell 0
                have fR2 := (hI.1.far (p := ⟨N, 0, none⟩) (by show _ ≠ N; omega) (.int .i64 ((pre.length : Int) + 1))).frozen 0
                simp only [List.getElem?_toArray, List.getElem?_cons_zero] at eR
                have ho := (Only.refl [N, w.heap.size] W).setCell (p := ⟨N, 0, none⟩) (.inl (by simp)) (.int .i64 ((pre.length : Int) + 1))
                have ho2 := ho.setCell (p := ⟨w.heap.size, 0, none⟩) (.inl (by simp)) (.bool false)
                have hcl : ∀ k o, k ∈ [N, w.heap.size] → W.heap[k]? = some o → o.isCells = true := fun k o hk hko => by
                  simp at hk
                  rcases hk with rfl | rfl
                  · exact blk_cells bN hko
                  · exact blk_cells hI.1 hko
                replace hcl := Lib.hid hcl
                have hyi : (y : Int) + 1 ≤ 1099511627776 := by omega
                have hpi : (pre.length : Int) ≤ 999 := by omega
                have hset := hI.set hN (.int .i64 ((pre.length : Int) + 1))
                have bset := bN.set_ 0 (.int .i64 ((pre.length : Int) + 1))
                by_cases hyp : y = pre.length
                · subst hyp
                  have hLp := L_pos (pre.length + 1) (by omega)
                  generalize hx : (L (pre.length + 1) : Int) = x
                  have hLp2 : 1 ≤ x ∧ x ≤ 1099511627776 := by omega
                  replace hx := Lib.hid hx
                  by_cases hb : pre.length = 999
                  · have hb1 : ((pre.length : Int) + 1 == 1000) = true := by rw [hb]; rfl
                    have hp8 : Hid (SLeft w N (.exit 8) (pre ++ [⟨pre.length, hy⟩]) (W.setCell ⟨N, 0, none⟩ (.int .i64 ((pre.length : Int) + 1)))) :=
                      .inr ⟨rfl, hset, by simpa [hb] using bset⟩
                    replace hb := Lib.hid hb
                    clear hset bset
                    gi_wp2_with (refine ⟨trivial, ?_⟩; gi_at_call 29; refine ((callsIn_wide.2 (rat_eq _ (pre.length + 1) x (by omega) (by omega) hx _)).inRound l).mono ?_; rintro e w' ⟨rfl, rfl⟩)
                    exact ⟨KeepsFrom.of_only ho hcl.out, hp8.out⟩
                  · have hb1 : ((pre.length : Int) + 1 == 1000) = false := beq_eq_false_iff_ne.2 (by omega)
                    have hp8 : Hid (SIn w N (pre ++ [⟨pre.length, hy⟩]) (W.setCell ⟨N, 0, none⟩ (.int .i64 ((pre.length : Int) + 1)))) :=
                      ⟨hset, by simpa using bset, by simp; omega⟩
                    replace hb := Lib.hid hb
                    clear hset bset
                    gi_wp2_with (refine ⟨trivial, ?_⟩; gi_at_call 29; refine ((callsIn_wide.2 (rat_eq _ (pre.length + 1) x (by omega) (by omega) hx _)).inRound l).mono ?_; rintro e w' ⟨rfl, rfl⟩)
                    exact ⟨KeepsFrom.of_only ho hcl.out, trivial, hp8.out⟩
                · have hb2 : ((y : Int) + 1 != (pre.length : Int) + 1) = true := by rw [bne_iff_ne]; omega
                  have hb4 : ((y : Int) + 1 == (pre.length : Int) + 1) = false := beq_eq_false_iff_ne.2 (by omega)
                  have hb5 : ((y : Int) == (pre.length : Int)) = false := beq_eq_false_iff_ne.2 (by omega)
                  have hb6 : ((y : Int) != (pre.length : Int)) = true := by rw [bne_iff_ne]; omega
                  have hb7 : (y == pre.length) = false := beq_eq_false_iff_ne.2 hyp
                  have hb8 : (y != pre.length) = true := bne_iff_ne.2 hyp
                  have hp8 : Hid (∀ W', SLeft w N .ret (pre ++ [⟨y, hy⟩]) W') := fun W' => .inl ⟨rfl, pre, ⟨y, hy⟩, rfl, hyp⟩
                  replace hyp := Lib.hid hyp
                  clear hset bset
                  gi_wp2_with (refine ⟨trivial, ?_⟩)
                  exact ⟨KeepsFrom.of_only ho2 hcl.out, hp8.out _⟩
              case done =>
                rintro D ys W hD hS ⟨_, _, hle⟩ hK
                have := congrArg List.length hS
                simp at this
                omega
              case stop =>
                rintro D cd xs W' hD hSp hL hK
                rcases hL with ⟨rfl, pre, y, rfl, hne⟩ | ⟨rfl, hS', bN'⟩
                · exact absurd (range_last hSp).2 hne
                · have hds : Marks w.heap.size W' [{ target := .collected D, args := #[] }] := Marks.push (ds := []) trivial (Nat.le_trans hs8 hD) hK (by simp)
                  clear hSp hK bN hS
                  refine wpIn_wide.2 ?_
                  go_wp2
                  have hr := off_row W'
                  have hS9 := (hS'.new ((Below.refl _ W').alloc (Nat.le_refl _) (.cells #[.int .i64 0, .int .i64 0, .int .i64 0, .int .i64 0, .bool false] 53)))
                  replace hS9 := hS9.new ((Below.refl _ _).alloc (Nat.le_refl _) (.cells #[.pointer none, .pointer (some ⟨W'.heap.size, 0, none⟩)] 33))
                  have hN9 := (bN'.alloc (.cells #[.int .i64 0, .int .i64 0, .int .i64 0, .int .i64 0, .bool false] 53)).alloc (.cells #[.pointer none, .pointer (some ⟨W'.heap.size, 0, none⟩)] 33)
                  have hds9 := hds.only (only_of_below [] (((Below.refl W'.heap.size W').alloc (Nat.le_refl _) (.cells #[.int .i64 0, .int .i64 0, .int .i64 0, .int .i64 0, .bool false] 53)).alloc (by simp) (.cells #[.pointer none, .pointer (some ⟨W'.heap.size, 0, none⟩)] 33))) (by simp)
                  generalize (W'.alloc (.cells #[.int .i64 0, .int .i64 0, .int .i64 0, .int .i64 0, .bool false] 53)).alloc (.cells #[.pointer none, .pointer (some ⟨W'.heap.size, 0, none⟩)] 33) = W9 at hr hS9 hN9 hds9 ⊢
                  clear hS' bN' hds
                  go_loop [165] (fun i => ∃ j : Nat, j ≤ 2 ∧ i = .int .i64 j) (fun i => 2 - (intOf i).toNat)
                  case atStart => exact ⟨0, by omega, rfl⟩
                  case round =>
                    obtain ⟨j, hj, rfl⟩ := hrel
                    by_cases hlj : j < 2
                    · obtain ⟨p, hp, hoff⟩ := hr j hlj
                      clear hr
                      replace hoff := Lib.hid hoff
                      go_wp2_with (first | (go_at_call 19; refine (conflict_off hoff.out).mono ?_; rintro e w' ⟨rfl, rfl⟩) | (go_at_call 21; refine (round_off hoff.out).mono ?_; rintro e w' ⟨rfl, rfl⟩) | (go_at_call 22; refine (left_off hoff.out).mono ?_; rintro e w' ⟨rfl, rfl⟩) | (go_at_call 20; refine (count_off hoff.out).mono ?_; rintro e w' ⟨rfl, rfl⟩))
                      go_round
                      case rel => exact ⟨j + 1, by omega, by go_num⟩
                      case measure => simp [intOf]; omega
                    · obtain rfl : j = 2 := by omega
                      clear hlj hj hr
                      simp only [show ((2 : Nat) : Int) = 2 from rfl]
                      have eN := hN9.cell 0
                      simp only [List.getElem?_toArray, List.getElem?_cons_zero] at eN
                      go_wp2_with (go_at_call 12; refine (awake_ok _).mono ?_; rintro e w6 ⟨rfl, hB6⟩; have hS6 := hS9.new hB6; have hds6 := hds9.only (only_of_below [] hB6) (by simp); have gR := hS6.1.cell 0; have fR := hS6.1.frozen 0; simp only [List.getElem?_toArray, List.getElem?_cons_zero] at gR; clear hB6)
                      have hm6 := hds6.only (fp := [w.heap.size]) ((Only.refl [w.heap.size] w6).setCell (p := ⟨w.heap.size, 0, none⟩) (.inl (by simp)) (.bool true)) (fun i o hi ho => by rw [List.mem_singleton] at hi; subst hi; exact blk_cells hS6.1 ho)
                      have hb6 := hS6.2.setCell (p := ⟨w.heap.size, 0, none⟩) (Nat.le_refl _) (.bool true)
                      have bR6 := hS6.1.set_ 0 (.bool true)
                      refine leaves_marks hm6 (fun W7 k7 => ⟨.bool true, ?_, rfl, below_ck hb6 (Nat.le_refl _) k7 (Nat.le_refl _)⟩)
                      have c7 := (bR6.ck k7).cell 0
                      simp at c7
                      simp [results, Try.results10, go_sem, c7]
theorem law_small (w : World) : Calls Try.prog 10 #[] w fun e w' => e = .returned (.bool true) ∧ Below w.heap.size w w' :=
  callsIn_wide.1 (small_in 3 (by omega) w)
end Go.Proofs.Ytanejldglbkacaa
