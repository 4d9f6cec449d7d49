/- Disks: law 8. -/
import Derived.Test.YthhchccjpgpibaaDiskAG
namespace Go.Proofs.Ythhchccjpgpibaa
open Go Go.RowKit Go.Shelf
set_option linter.unusedVariables false
set_option linter.unusedSimpArgs false
set_option maxHeartbeats 4000000
def some7 : List ActV := [(0, 0, 1), (0, 0, 6), (0, 1, 2), (4, 0, 0), (5, 0, 0), (7, 0, 0), (0, 2, 3)]
theorem some7_ok : ∀ x ∈ some7, ActV.Ok x := by
  intro x hx
  simp [some7] at hx
  rcases hx with rfl | rfl | rfl | rfl | rfl | rfl | rfl <;> (unfold ActV.Ok; decide)
def blocks8 : List Int := [-9223372036854775808, -1, 0, 1, 8, 16, 17, 9223372036854775807]
def widths6 : List Int := [-9223372036854775808, 0, 1, 16, 17, 9223372036854775807]
theorem blocks8_ok : ∀ x ∈ blocks8, -9223372036854775808 ≤ x ∧ x ≤ 9223372036854775807 := by
  intro x hx
  simp [blocks8] at hx
  rcases hx with rfl | rfl | rfl | rfl | rfl | rfl | rfl | rfl <;> decide
theorem widths6_ok : ∀ x ∈ widths6, -9223372036854775808 ≤ x ∧ x ≤ 9223372036854775807 := by
  intro x hx
  simp [widths6] at hx
  rcases hx with rfl | rfl | rfl | rfl | rfl | rfl <;> decide
/-- Cells made at once, as a row of cells. -/
theorem lit_reads_n (W : World) (e : TypeId) (cs : Array Value) (xs : List Value) (size n : Nat) (hx : cs.toList = xs) (hn : xs.length = n * size) : Reads (W.alloc (.cells cs e)) (W.heap.size + 1) size (some ⟨W.heap.size, 0, none⟩) n xs := by
  refine ⟨hn, fun _ => ⟨_, rfl, by simp, fun j u hu => ?_⟩⟩
  have h0 := (Blk.new W e cs).cell j
  rw [Addr.add_lit, Nat.zero_add, h0, ← Array.getElem?_toList, hx]
  exact hu
/-- A slice of first words. -/
def FirstSl (W : World) (s : Value) : Prop := ∃ A n c, ∃ l : List Int, s = .slice A n c ∧ Reads W W.heap.size 1 A n (l.map (Value.int .u32)) ∧ (∀ x ∈ l, 0 ≤ x ∧ x ≤ 4294967295) ∧ n ≤ 17
theorem FirstSl.new {W W' : World} {s : Value} (h : FirstSl W s) (hb : Below W.heap.size W W') : FirstSl W' s := by
  obtain ⟨A, n, c, l, e, h1, h2⟩ := h
  exact ⟨A, n, c, l, e, (h1.below hb).more hb.size, h2⟩
theorem FirstSl.al {W : World} {s : Value} (h : FirstSl W s) (o : Obj) : FirstSl (W.alloc o) s := h.new ((Below.refl _ _).alloc (Nat.le_refl _) _)
theorem FirstSl.dr {W : World} {s : Value} (h : FirstSl W s) : FirstSl W.drew s := h.new (below_dr (Below.refl _ _))
theorem first_none (W : World) : FirstSl W (.slice none 0 0) := ⟨none, 0, 0, [], rfl, by simpa using (Reads.none_ : Reads W W.heap.size 1 none 0 []), by simp, by omega⟩
theorem first_one (W : World) (b : Nat) (hb : W.heap.size = b) : FirstSl (W.alloc (.cells #[.int .u32 4294967295] 29)) (.slice (some ⟨b, 0, none⟩) 1 1) := by
  subst hb
  have h := lit_reads_n W 29 #[.int .u32 4294967295] [.int .u32 4294967295] 1 1 rfl rfl
  exact ⟨_, _, _, [4294967295], rfl, by rw [World.size_alloc]; exact h, by simp, by omega⟩
theorem first_made (W : World) (b n : Nat) (hb : W.heap.size = b) (hn : n ≤ 17) : FirstSl (W.alloc (.cells (madeCells #[.int .u32 0] n) 29)) (.slice (some ⟨b, 0, none⟩) n n) := by
  subst hb
  have h := lit_reads_n W 29 (madeCells #[.int .u32 0] n) ((newWs [] 0 n 0).map (Value.int .u32)) 1 n (by rw [made_zero]) (by simp [newWs])
  refine ⟨_, _, _, newWs [] 0 n 0, rfl, by rw [World.size_alloc]; exact h, fun x hx => ?_, hn⟩
  have := newWs_bd [] 1 n 0 (by omega) (by omega) x (by simpa [newWs] using hx)
  omega
/-- The four of them. -/
def Four (W : World) (v : Value) : Prop := ∃ g s1 s2 s3, v = .slice (some ⟨g, 0, none⟩) 4 4 ∧ Blk W g 54 #[.slice none 0 0, s1, s2, s3] ∧ FirstSl W s1 ∧ FirstSl W s2 ∧ FirstSl W s3
theorem Four.new {W W' : World} {v : Value} (h : Four W v) (hb : Below W.heap.size W W') : Four W' v := by
  obtain ⟨g, s1, s2, s3, e, h1, h2, h3, h4⟩ := h
  exact ⟨g, s1, s2, s3, e, h1.below hb h1.lt, h2.new hb, h3.new hb, h4.new hb⟩
theorem Four.at_ {W : World} {v : Value} (h : Four W v) : ∃ g, v = .slice (some ⟨g, 0, none⟩) 4 4 ∧ ∀ j, j < 4 → ∃ s, W.cell? ⟨g, j, none⟩ = some s ∧ FirstSl W s := by
  obtain ⟨g, s1, s2, s3, e, h1, h2, h3, h4⟩ := h
  refine ⟨g, e, fun j hj => ?_⟩
  have hc := h1.cell j
  rcases (by omega : j = 0 ∨ j = 1 ∨ j = 2 ∨ j = 3) with rfl | rfl | rfl | rfl
  · exact ⟨_, by simpa using hc, first_none W⟩
  · exact ⟨_, by simpa using hc, h2⟩
  · exact ⟨_, by simpa using hc, h3⟩
  · exact ⟨_, by simpa using hc, h4⟩
theorem info29 : (Try.prog.info? 29).map (fun i => (i.zero, i.size, i.bytes)) = some (some (.int .u32 0), 1, 4) := by kernel_rfl
theorem four_mk (W : World) (g : Nat) (hg : W.heap.size = g) (s1 s2 s3 : Value) (h1 : FirstSl W s1) (h2 : FirstSl W s2) (h3 : FirstSl W s3) : Four (W.alloc (.cells #[.slice none 0 0, s1, s2, s3] 54)).drew (.slice (some ⟨g, 0, none⟩) 4 4) := by
  subst hg
  exact ⟨_, _, _, _, rfl, (Blk.new W 54 _).drew, (h1.al _).dr, (h2.al _).dr, (h3.al _).dr⟩
theorem Four.all {W : World} {v : Value} (h : Four W v) : ∃ ad, v = .slice (some ad) 4 4 ∧ ∀ W', Below W.heap.size W W' → ∀ j, j < 4 → ∃ A n c, ∃ l : List Int, W'.cell? (ad.add j) = some (.slice A n c) ∧ Reads W' W'.heap.size 1 A n (l.map (Value.int .u32)) ∧ (∀ x ∈ l, 0 ≤ x ∧ x ≤ 4294967295) ∧ n ≤ 17 := by
  obtain ⟨g, e, _⟩ := h.at_
  refine ⟨⟨g, 0, none⟩, e, fun W' hb j hj => ?_⟩
  obtain ⟨g', e', h'⟩ := (h.new hb).at_
  have hg : g' = g := by
    have := e.symm.trans e'
    simp at this
    exact this.symm
  subst hg
  obtain ⟨s, hs, A, n, c, l, rfl, h1, h2, h3⟩ := h' j hj
  exact ⟨A, n, c, l, by rw [Addr.add_lit, Nat.zero_add]; exact hs, h1, h2, h3⟩
def acts5 (x y : Int) : List ActV := [(1, x, 4294967295), (1, y, 1), (6, -1, 0), (2, -9223372036854775808, 1), (6, 9223372036854775807, 0)]
theorem acts5_ok {x y : Int} (h0 : -9223372036854775808 ≤ x) (h1 : x ≤ 9223372036854775807) (h2 : -9223372036854775808 ≤ y) (h3 : y ≤ 9223372036854775807) : ∀ a ∈ acts5 x y, ActV.Ok a := by
  intro a ha
  simp only [acts5, List.mem_cons, List.not_mem_nil, or_false] at ha
  rcases ha with rfl | rfl | rfl | rfl | rfl <;> (unfold ActV.Ok; simp; try omega)
theorem reads_int {W : World} {B k n : Nat} {ad : Addr} {l : List Int} (h : Reads W B 1 (some ad) n (l.map (Value.int .i64))) (hl : ∀ x ∈ l, -9223372036854775808 ≤ x ∧ x ≤ 9223372036854775807) (hk : k < n) :
    ∃ x : Int, W.cell? (ad.add k) = some (.int .i64 x) ∧ -9223372036854775808 ≤ x ∧ x ≤ 9223372036854775807 := by
  obtain ⟨ad', u, e, _, hu, hc⟩ := h.at_ hk
  injection e with e
  subst e
  rw [List.getElem?_map] at hu
  cases hx : l[k]? with
  | none => rw [hx] at hu; cases hu
  | some x =>
    rw [hx] at hu
    injection hu with hu
    subst hu
    exact ⟨x, hc, hl x (List.mem_of_getElem? hx)⟩
set_option maxRecDepth 100000 in
theorem small_ok (w : World) : Calls Try.prog 8 #[] w fun e w' => e = .returned (.bool true) ∧ Below w.heap.size w w' := by
  obtain ⟨i31, hi31, hz31, hs31, hy31⟩ := info_parts info31
  have hB0 : Below w.heap.size w (w.alloc (.cells #[.int .u8 0, .int .i64 0, .int .u32 1, .int .u8 0, .int .i64 0, .int .u32 6, .int .u8 0, .int .i64 1, .int .u32 2, .int .u8 4, .int .i64 0, .int .u32 0, .int .u8 5, .int .i64 0, .int .u32 0, .int .u8 7, .int .i64 0, .int .u32 0, .int .u8 0, .int .i64 2, .int .u32 3] 31)) := (Below.refl _ _).alloc (Nat.le_refl _) _
  have hr0 := lit_reads_n w 31 #[.int .u8 0, .int .i64 0, .int .u32 1, .int .u8 0, .int .i64 0, .int .u32 6, .int .u8 0, .int .i64 1, .int .u32 2, .int .u8 4, .int .i64 0, .int .u32 0, .int .u8 5, .int .i64 0, .int .u32 0, .int .u8 7, .int .i64 0, .int .u32 0, .int .u8 0, .int .i64 2, .int .u32 3] (encAs some7) 3 7 rfl rfl
  have hsz0 : (w.alloc (.cells #[.int .u8 0, .int .i64 0, .int .u32 1, .int .u8 0, .int .i64 0, .int .u32 6, .int .u8 0, .int .i64 1, .int .u32 2, .int .u8 4, .int .i64 0, .int .u32 0, .int .u8 5, .int .i64 0, .int .u32 0, .int .u8 7, .int .i64 0, .int .u32 0, .int .u8 0, .int .i64 2, .int .u32 3] 31)).heap.size = w.heap.size + 1 := by simp
  rw [← hsz0] at hr0
  go_enter Try.func8, Try.ntmps8
  go_wp2_with fail
  generalize w.alloc (.cells #[.int .u8 0, .int .i64 0, .int .u32 1, .int .u8 0, .int .i64 0, .int .u32 6, .int .u8 0, .int .i64 1, .int .u32 2, .int .u8 4, .int .i64 0, .int .u32 0, .int .u8 5, .int .i64 0, .int .u32 0, .int .u8 7, .int .i64 0, .int .u32 0, .int .u8 0, .int .i64 2, .int .u32 3] 31) = W0 at *
  generalize (⟨w.heap.size, 0, none⟩ : Addr) = ad at *
  clear hsz0
  go_loopw [18] (fun i wr => ∃ k : Nat, k ≤ 16807 ∧ i = .int .i64 k ∧ Below W0.heap.size W0 wr) (fun i _ => 16807 - (intOf i).toNat)
  case atStart => exact ⟨0, by omega, rfl, Below.refl _ _⟩
  case round =>
    obtain ⟨k, hk, rfl, hBr⟩ := hrel
    by_cases hlt : k < 16807
    · have v1 : (k : Int) < 16807 := by omega
      have v0 : 0 ≤ (k : Int) := by omega
      go_wp2_with fail
      go_loopw [2, 3, 21] (fun n2 v3 i wx => ∃ (j m : Nat) (la : List ActV), j ≤ 5 ∧ i = .int .i64 j ∧ n2 = .int .i64 m ∧ m ≤ 16807 ∧ Below W0.heap.size W0 wx ∧ la.length = j ∧ (∀ x ∈ la, ActV.Ok x) ∧ wx.ownsRow W0.heap.size 31 3 v3 j (encAs la)) (fun _ _ i _ => 5 - (intOf i).toNat)
      case atStart => exact ⟨0, k, [], by omega, rfl, rfl, by omega, hBr, rfl, by simp, by simpa [encAs] using World.ownsRow_nil wr W0.heap.size 31 3⟩
      case round =>
        obtain ⟨j, m, la, hj, rfl, rfl, hm, hBx, hla, hlo, hrow⟩ := hrel
        clear hBr
        obtain ⟨A3, c3, rfl⟩ := own_form hrow
        by_cases hlt2 : j < 5
        · have u1 : (j : Int) < 5 := by omega
          obtain ⟨r, hr, hr7⟩ : ∃ r : Nat, (m : Int).tmod 7 = (r : Int) ∧ r < 7 := ⟨m % 7, by rw [Int.tmod_eq_emod_of_nonneg (by omega)]; omega, by omega⟩
          obtain ⟨m2, hm2, hm3⟩ : ∃ m2 : Nat, IntKind.i64.wrap ((m : Int) / 7) = (m2 : Int) ∧ m2 ≤ 16807 := ⟨m / 7, by simp [IntKind.wrap, IntKind.bits, IntKind.signed]; omega, by omega⟩
          have u2 : (r : Int) < 7 := by omega
          have u3 : 0 ≤ (r : Int) := by omega
          have u4 : 0 ≤ (m : Int) := by omega
          have u5 : (m : Int) ≤ 16807 := by omega
          obtain ⟨_, ⟨x0, x1, x2⟩, e1, _, hx, q0, q1, q2⟩ := reads_act (hr0.below hBx) hr7
          injection e1 with e1
          subst e1
          dsimp only at q0 q1 q2
          have hxo := some7_ok _ (List.mem_of_getElem? hx)
          have hszx := hBx.size
          have hrow2 := row_new hrow ((Below.refl _ _).alloc (Nat.le_refl _) (.cells #[.int .u8 x0, .int .i64 x1, .int .u32 x2] 31))
          have hlit := lit_reads_n wr 31 #[.int .u8 x0, .int .i64 x1, .int .u32 x2] [.int .u8 x0, .int .i64 x1, .int .u32 x2] 3 1 rfl rfl
          have hfin : ∀ (v' : Value) (w3 : World), w3.ownsRow W0.heap.size 31 3 v' (j + 1) (encAs la ++ [.int .u8 x0, .int .i64 x1, .int .u32 x2]) → (wr.alloc (.cells #[.int .u8 x0, .int .i64 x1, .int .u32 x2] 31)).grownBy w3 (Value.slice A3 j c3).ownBlock →
              Below W0.heap.size W0 w3 ∧ (la ++ [(x0, x1, x2)]).length = j + 1 ∧ (∀ x ∈ la ++ [(x0, x1, x2)], ActV.Ok x) ∧ w3.ownsRow W0.heap.size 31 3 v' (j + 1) (encAs (la ++ [(x0, x1, x2)])) := by
            intro v' w3 hown hgrow
            refine ⟨own_below (hBx.alloc hszx _) (by rw [World.size_alloc]; omega) hrow2 hgrow, by simp [hla], fun x hxm => ?_, own_cast hown rfl (by simp [encAs, encA])⟩
            rcases List.mem_append.1 hxm with h | h
            · exact hlo x h
            · rw [List.mem_singleton.1 h]; exact hxo
          clear hx hxo
          replace hrow2 := Lib.hid hrow2
          replace hlit := Lib.hid hlit
          replace hfin := Lib.hid hfin
          replace hrow := Lib.hid hrow
          go_wp2_with (at_builtin; refine wpList_append_any _ rfl _ _ 23 rfl W0.heap.size 31 i31 _ 3 24 Try.underlying23 hi31 hz31 hs31 hy31 rfl (by omega) (.slice A3 j c3) j (encAs la) rfl hrow2.out (wr.heap.size + 1) (some ⟨wr.heap.size, 0, none⟩) 1 1 [.int .u8 x0, .int .i64 x1, .int .u32 x2] rfl hlit.out (by simp [Value.oneCell']) (by simp only [maxLen]; omega) (by omega) (by rw [World.size_alloc]; omega) ?_; intro v' w3 hown hgrow hat; have hq := hfin.out v' w3 hown hgrow; replace hq := Lib.hid hq)
          go_roundw
          case rel => exact ⟨j + 1, m2, _, by omega, by go_num, rfl, hm3, hq.out⟩
          case measure => simp [intOf]; omega
        · obtain rfl : j = 5 := by omega
          have hBn := hBx.alloc hBx.size (.cells #[.int .u32 3, .int .u32 5] 29)
          have hrw := row_new hrow ((Below.refl _ _).alloc (Nat.le_refl _) (.cells #[.int .u32 3, .int .u32 5] 29))
          have hlit := lit_reads_n wr 29 #[.int .u32 3, .int .u32 5] (([3, 5] : List Int).map (Value.int .u32)) 1 2 rfl rfl
          have h27 := does_ok 2 2 (by omega) (by omega) (some ⟨wr.heap.size, 0, none⟩) 2 2 _ [3, 5] A3 5 c3 _ la (wr.alloc (.cells #[.int .u32 3, .int .u32 5] 29)) hlit (by simp) (Reads.of_own hrw) (Nat.le_refl _) (by simp) hlo (by omega) (by omega)
          replace h27 := Lib.hid h27
          clear hrw hlit hrow hlo hla
          go_wp2_with (go_at_call 27; (with_reducible refine h27.out.mono ?_); rintro e W9 ⟨rfl, hB9⟩)
          go_roundw
          case rel => exact ⟨k + 1, by omega, by go_num, hBn.trans (hB9.mono hBn.size)⟩
          case measure => simp [intOf]; omega
    · have v1 : ¬ (k : Int) < 16807 := by omega
      have hB1 : Below W0.heap.size W0 (wr.alloc (.cells #[.int .i64 (-9223372036854775808), .int .i64 (-1), .int .i64 0, .int .i64 1, .int .i64 8, .int .i64 16, .int .i64 17, .int .i64 9223372036854775807] 3)) := hBr.alloc hBr.size _
      have hr8 := lit_reads_n wr 3 #[.int .i64 (-9223372036854775808), .int .i64 (-1), .int .i64 0, .int .i64 1, .int .i64 8, .int .i64 16, .int .i64 17, .int .i64 9223372036854775807] (blocks8.map (Value.int .i64)) 1 8 rfl rfl
      have hsz1 : (wr.alloc (.cells #[.int .i64 (-9223372036854775808), .int .i64 (-1), .int .i64 0, .int .i64 1, .int .i64 8, .int .i64 16, .int .i64 17, .int .i64 9223372036854775807] 3)).heap.size = wr.heap.size + 1 := by simp
      rw [← hsz1] at hr8
      go_wp2_with fail
      generalize wr.alloc (.cells #[.int .i64 (-9223372036854775808), .int .i64 (-1), .int .i64 0, .int .i64 1, .int .i64 8, .int .i64 16, .int .i64 17, .int .i64 9223372036854775807] 3) = W1 at *
      generalize (⟨wr.heap.size, 0, none⟩ : Addr) = ad8 at *
      clear hsz1 hBr hlt v1 hk hr0
      go_loopw [41] (fun i wy => ∃ k : Nat, k ≤ 8 ∧ i = .int .i64 k ∧ Below W1.heap.size W1 wy) (fun i _ => 8 - (intOf i).toNat)
      case atStart => exact ⟨0, by omega, rfl, Below.refl _ _⟩
      case round =>
        obtain ⟨k, hk, rfl, hBy⟩ := hrel
        by_cases hlt : k < 8
        · have v1 : (k : Int) < 8 := by omega
          obtain ⟨b, hcb, hb0, hb1⟩ := reads_int (hr8.below hBy) blocks8_ok hlt
          have hB2 : Below W1.heap.size W1 (wr.alloc (.cells #[.int .i64 (-9223372036854775808), .int .i64 0, .int .i64 1, .int .i64 16, .int .i64 17, .int .i64 9223372036854775807] 3)) := hBy.alloc hBy.size _
          have hr6 := lit_reads_n wr 3 #[.int .i64 (-9223372036854775808), .int .i64 0, .int .i64 1, .int .i64 16, .int .i64 17, .int .i64 9223372036854775807] (widths6.map (Value.int .i64)) 1 6 rfl rfl
          have hsz2 : (wr.alloc (.cells #[.int .i64 (-9223372036854775808), .int .i64 0, .int .i64 1, .int .i64 16, .int .i64 17, .int .i64 9223372036854775807] 3)).heap.size = wr.heap.size + 1 := by simp
          rw [← hsz2] at hr6
          go_wp2_with fail
          generalize wr.alloc (.cells #[.int .i64 (-9223372036854775808), .int .i64 0, .int .i64 1, .int .i64 16, .int .i64 17, .int .i64 9223372036854775807] 3) = W2 at *
          generalize (⟨wr.heap.size, 0, none⟩ : Addr) = ad6 at *
          clear hsz2 hBy hcb
          go_loopw [47] (fun i wy => ∃ k : Nat, k ≤ 6 ∧ i = .int .i64 k ∧ Below W2.heap.size W2 wy) (fun i _ => 6 - (intOf i).toNat)
          case atStart => exact ⟨0, by omega, rfl, Below.refl _ _⟩
          case round =>
            obtain ⟨k2, hk2, rfl, hBz⟩ := hrel
            by_cases hlt2 : k2 < 6
            · have v2 : (k2 : Int) < 6 := by omega
              obtain ⟨c, hcc, hc0, hc1⟩ := reads_int (hr6.below hBz) widths6_ok hlt2
              have hmk16 := run_make_row' (P := Try.prog) 54 29 (.int .u32 0) 4 Try.underlying54 info29 rfl .i64 .i64 16 (by omega) (by omega)
              have hmk17 := run_make_row' (P := Try.prog) 54 29 (.int .u32 0) 4 Try.underlying54 info29 rfl .i64 .i64 17 (by omega) (by omega)
              rw [show ((16 : Nat) : Int) = 16 from rfl] at hmk16
              rw [show ((17 : Nat) : Int) = 17 from rfl] at hmk17
              go_upto_region 20 with fail
              clear hcc
              go_cut [54, 55, 56] from 51 to 56 (fun v nn zz wx => nn = .int .i64 4 ∧ zz = .int .i64 0 ∧ Four wx v ∧ Below wr.heap.size wr wx)
              case first =>
                go_region_law (fail)
                all_goals
                  go_wp2
                  go_meet
                  refine ⟨rfl, rfl, four_mk _ _ (by simp) _ _ _ ?_ ?_ ?_, ((((Below.refl _ _).alloc (Nat.le_refl _) _ |>.alloc (by simp) _) |>.alloc (by simp; omega) _) |>.alloc (by simp; omega) _) |> below_dr⟩
                  · first | exact first_one _ _ (by simp) | exact (first_one _ _ (by simp)).al _ | exact ((first_one _ _ (by simp)).al _).al _
                  · first | exact first_made _ _ 16 (by simp) (by omega) | exact (first_made _ _ 16 (by simp) (by omega)).al _ | exact ((first_made _ _ 16 (by simp) (by omega)).al _).al _
                  · first | exact first_made _ _ 17 (by simp) (by omega) | exact (first_made _ _ 17 (by simp) (by omega)).al _ | exact ((first_made _ _ 17 (by simp) (by omega)).al _).al _
              case rest =>
                obtain ⟨rfl, rfl, hf4, hBc⟩ := hcut
                have hB3 : Below W2.heap.size W2 wc := hBz.trans (hBc.mono hBz.size)
                clear hBz hBc
                obtain ⟨adg, rfl, hat⟩ := hf4.all
                replace hat := Lib.hid hat
                clear hf4 hmk16 hmk17
                go_wp2_with fail
                go_loopw [56] (fun i wy => ∃ k : Nat, k ≤ 4 ∧ i = .int .i64 k ∧ Below wc.heap.size wc wy) (fun i _ => 4 - (intOf i).toNat)
                case atStart => exact ⟨0, by omega, rfl, Below.refl _ _⟩
                case round =>
                  obtain ⟨k3, hk3, rfl, hBq⟩ := hrel
                  by_cases hlt3 : k3 < 4
                  · have v3 : (k3 : Int) < 4 := by omega
                    obtain ⟨A, n, cp, l, hcl, hrl, hbl, hn17⟩ := hat.out _ hBq k3 hlt3
                    obtain ⟨b1, hb1e, hb10, hb11⟩ : ∃ x : Int, IntKind.i64.wrap (b - 1) = x ∧ -9223372036854775808 ≤ x ∧ x ≤ 9223372036854775807 := ⟨_, rfl, by simp [IntKind.wrap, IntKind.bits, IntKind.signed]; omega, by simp [IntKind.wrap, IntKind.bits, IntKind.signed]; omega⟩
                    have hlit := lit_reads_n wr 31 (#[.int .u8 1, .int .i64 b1, .int .u32 4294967295, .int .u8 1, .int .i64 b, .int .u32 1, .int .u8 6, .int .i64 (-1), .int .u32 0, .int .u8 2, .int .i64 (-9223372036854775808), .int .u32 1, .int .u8 6, .int .i64 9223372036854775807, .int .u32 0] : Array Value) (encAs (acts5 b1 b)) 3 5 rfl rfl
                    have hlo : ∀ x ∈ acts5 b1 b, ActV.Ok x := acts5_ok hb10 hb11 hb0 hb1
                    have h27 := does_ok b c ⟨hb0, hb1⟩ ⟨hc0, hc1⟩ A n cp _ l (some ⟨wr.heap.size, 0, none⟩) 5 5 _ (acts5 b1 b) (wr.alloc (.cells (#[.int .u8 1, .int .i64 b1, .int .u32 4294967295, .int .u8 1, .int .i64 b, .int .u32 1, .int .u8 6, .int .i64 (-1), .int .u32 0, .int .u8 2, .int .i64 (-9223372036854775808), .int .u32 1, .int .u8 6, .int .i64 9223372036854775807, .int .u32 0] : Array Value) 31)) (hrl.below ((Below.refl _ _).alloc (Nat.le_refl _) _)) (by simp) hlit (by simp) hbl hlo (by omega) (by omega)
                    have hBn := hBq.alloc hBq.size (.cells (#[.int .u8 1, .int .i64 b1, .int .u32 4294967295, .int .u8 1, .int .i64 b, .int .u32 1, .int .u8 6, .int .i64 (-1), .int .u32 0, .int .u8 2, .int .i64 (-9223372036854775808), .int .u32 1, .int .u8 6, .int .i64 9223372036854775807, .int .u32 0] : Array Value) 31)
                    replace h27 := Lib.hid h27
                    replace hBn := Lib.hid hBn
                    clear hlit hlo hrl hbl
                    go_wp2_with (go_at_call 27; (with_reducible refine h27.out.mono ?_); rintro e W9 ⟨rfl, hB9⟩)
                    go_roundw
                    case rel => exact ⟨k3 + 1, by omega, by go_num, hBn.out.trans (hB9.mono hBn.out.size)⟩
                    case measure => simp [intOf]; omega
                  · have v3 : ¬ (k3 : Int) < 4 := by omega
                    go_wp2_with fail
                    go_roundw
                    case rel => exact ⟨k2 + 1, by omega, by go_num, hB3.trans (hBq.mono hB3.size)⟩
                    case measure => simp [intOf]; omega
            · have v2 : ¬ (k2 : Int) < 6 := by omega
              go_wp2_with fail
              go_roundw
              case rel => exact ⟨k + 1, by omega, by go_num, hB2.trans (hBz.mono hB2.size)⟩
              case measure => simp [intOf]; omega
        · have v1 : ¬ (k : Int) < 8 := by omega
          have hBa : Below W0.heap.size W0 W1 := hB1
          replace hBy := (hB1.trans (hBy.mono hB1.size))
          clear hB1
          have hin : ∀ W, Below W0.heap.size W0 W → Below w.heap.size w W := fun W h => hB0.trans (h.mono hB0.size)
          replace hin := Lib.hid hin
          have h28 := full_ok wr
          replace h28 := Lib.hid h28
          have h29 := fun W => nothing_ok W
          have h10 := fun W => awake_ok W
          replace h29 := Lib.hid h29
          replace h10 := Lib.hid h10
          replace hBy := Lib.hid hBy
          go_wp2_with (first | (go_at_call 28; (with_reducible refine h28.out.mono ?_); rintro e W9 ⟨rfl, hB9⟩; replace hB9 := Lib.hid (hBy.out.trans (hB9.mono hBy.out.size))) | (go_at_call 29; (with_reducible refine (h29.out _).mono ?_); rintro e W8 ⟨rfl, hB8⟩; replace hB8 := Lib.hid (hB9.out.trans (hB8.mono hB9.out.size))) | (go_at_call 10; (with_reducible refine (h10.out _).mono ?_); rintro e W7 ⟨rfl, hB7⟩; replace hB7 := Lib.hid (hB8.out.trans (hB7.mono hB8.out.size))))
          go_ret
          exact ⟨rfl, hin.out _ hB7.out⟩
end Go.Proofs.Ythhchccjpgpibaa
