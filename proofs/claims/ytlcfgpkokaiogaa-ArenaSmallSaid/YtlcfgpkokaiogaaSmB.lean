/- Arenas: law 4 (small). -/
import Derived.Test.YtlcfgpkokaiogaaDeA
import Derived.Test.YtlcfgpkokaiogaaArT
import Derived.Test.YtlcfgpkokaiogaaJoin2
namespace Go.Proofs.Ytlcfgpkokaiogaa
open Go Go.RowKit Go.Shelf
set_option linter.unusedVariables false
set_option linter.unusedSimpArgs false
set_option maxHeartbeats 4000000
attribute [local go_sem] Oper.semAt_some
/-- The cell of the answer. -/
structure SmI (w : World) (W : World) : Prop where
  below : Below w.heap.size w W
  r : Blk W w.heap.size 4 #[.bool false]
theorem SmI.new {w W W' : World} (h : SmI w W) (hb : Below W.heap.size W W') : SmI w W' := ⟨h.below.trans (hb.mono h.below.size), h.r.below hb h.r.lt⟩
theorem SmI.lt {w W : World} (h : SmI w W) : w.heap.size < W.heap.size := h.r.lt
theorem PAOk.new {W W' : World} {x : PA} (h : PAOk W W.heap.size x) (hb : Below W.heap.size W W') : PAOk W' W'.heap.size x := ⟨(h.rd.below hb).more hb.size, h.cap, h.kd, h.id, h.few⟩
theorem encPs_snoc (l : List PA) (x : PA) : encPs (l ++ [x]) = encPs l ++ encPA x := by simp [encPs]
theorem info27 : (Try.prog.info? 27).map (fun i => (i.zero, i.size, i.bytes)) = some (some (.agg #[.int .u8 0, .int .i64 0, .slice none 0 0]), 3, 40) := by kernel_rfl
theorem lit4_reads {W : World} {g n : Nat} (h : Blk W g 3 #[.int .i64 1, .int .i64 (-2), .int .i64 3, .int .i64 3]) (hn : n ≤ 4) : Reads W W.heap.size 1 (some ⟨g, 0, none⟩) n (lits (([1, -2, 3, 3] : List Int).take n)) :=
  ⟨by simp [lits]; omega, fun _ => ⟨_, rfl, h.lt, fun j u hu => by
    have h0 := h.cell j
    rw [Addr.add_lit, Nat.zero_add, h0]
    rw [lits, List.getElem?_map, List.getElem?_take] at hu
    split at hu
    · have hj : j = 0 ∨ j = 1 ∨ j = 2 ∨ j = 3 := by omega
      rcases hj with rfl | rfl | rfl | rfl <;> simpa using hu
    · cases hu⟩⟩
/-- A call that the law makes. -/
def PQ (W : World) (p : PA) : Prop := ∃ g n, n ≤ 4 ∧ p.A = some ⟨g, 0, none⟩ ∧ p.c = 4 ∧ p.ls = ([1, -2, 3, 3] : List Int).take n ∧ Blk W g 3 #[.int .i64 1, .int .i64 (-2), .int .i64 3, .int .i64 3] ∧ (0 ≤ p.kd ∧ p.kd ≤ 255) ∧ -9223372036854775808 ≤ p.id ∧ p.id ≤ 9223372036854775807
theorem PQ.ok {W : World} {p : PA} (h : PQ W p) : PAOk W W.heap.size p := by
  obtain ⟨g, n, hn, hA, hc, hl, hb, hk, hi⟩ := h
  have hlen : p.ls.length = n := by rw [hl]; simp; omega
  refine ⟨?_, by omega, hk, hi, by omega⟩
  rw [hlen, hA, hl]
  exact lit4_reads hb hn
theorem PQ.new {W W' : World} {p : PA} (h : PQ W p) (hb : Below W.heap.size W W') : PQ W' p := by
  obtain ⟨g, n, hn, hA, hc, hl, hbk, hk, hi⟩ := h
  exact ⟨g, n, hn, hA, hc, hl, hbk.below hb hbk.lt, hk, hi⟩
theorem PQ.grown {W W' : World} {p : PA} {base n m : Nat} {v : Value} {xs : List Value} (h : PQ W p) (hv : W.ownsRow base 27 m v n xs) (hg : W.grownBy W' v.ownBlock) : PQ W' p := by
  obtain ⟨g, n, hn, hA, hc, hl, hbk, hk, hi⟩ := h
  exact ⟨g, n, hn, hA, hc, hl, hbk.grown hg (fun e => own_blk_ne hv hbk (by decide) e.symm), hk, hi⟩
theorem blk_reads3 {W : World} {g : Nat} {e : TypeId} {xs : List Value} {n : Nat} (h : Blk W g e xs.toArray) (hn : xs.length = n * 3) : Reads W W.heap.size 3 (some ⟨g, 0, none⟩) n xs := ⟨hn, fun _ => ⟨_, rfl, h.lt, fun j u hu => by
  have h0 := h.cell j
  rw [Addr.add_lit, Nat.zero_add, h0]
  simpa using hu⟩⟩
def endsC : Array Value := #[.int .i64 (-9223372036854775808), .int .i64 (-1), .int .i64 0, .int .i64 1, .int .i64 1073741823, .int .i64 1073741824, .int .i64 1073741825]
theorem ends_at {W : World} {g i : Nat} (h : Blk W g 3 endsC) (hi : i < 7) : ∃ x : Int, W.cell? ⟨g, i, none⟩ = some (.int .i64 x) ∧ -9223372036854775808 ≤ x ∧ x ≤ 9223372036854775807 := by
  have h0 := h.cell i
  have hj : i = 0 ∨ i = 1 ∨ i = 2 ∨ i = 3 ∨ i = 4 ∨ i = 5 ∨ i = 6 := by omega
  rcases hj with rfl | rfl | rfl | rfl | rfl | rfl | rfl
  · exact ⟨_, h0, by omega, by omega⟩
  · exact ⟨_, h0, by omega, by omega⟩
  · exact ⟨_, h0, by omega, by omega⟩
  · exact ⟨_, h0, by omega, by omega⟩
  · exact ⟨_, h0, by omega, by omega⟩
  · exact ⟨_, h0, by omega, by omega⟩
  · exact ⟨_, h0, by omega, by omega⟩
def endsP (g : Nat) (x y : Int) : List PA := [⟨0, x, some ⟨g, 0, none⟩, 1, [1]⟩, ⟨0, y, some ⟨g + 1, 0, none⟩, 2, [2, 0]⟩, ⟨0, y, some ⟨g + 1 + 1, 0, none⟩, 2, [2, -1]⟩, ⟨2, x, none, 0, []⟩, ⟨2, y, none, 0, []⟩, ⟨2, y, none, 0, []⟩]
def endsW (W : World) (x y : Int) : World := (((W.alloc (.cells #[.int .i64 1] 3)).alloc (.cells #[.int .i64 2, .int .i64 0] 3)).alloc (.cells #[.int .i64 2, .int .i64 (-1)] 3)).alloc (.cells (encPs (endsP W.heap.size x y)).toArray 27)
theorem endsW_below (W : World) (x y : Int) : Below W.heap.size W (endsW W x y) := ((((Below.refl _ W).alloc (Nat.le_refl _) _).alloc (by simp) _).alloc (by simp; omega) _).alloc (by simp; omega) _
theorem ends_plays (W : World) {x y : Int} (hx : -9223372036854775808 ≤ x ∧ x ≤ 9223372036854775807) (hy : -9223372036854775808 ≤ y ∧ y ≤ 9223372036854775807) :
    Calls Try.prog 11 #[.slice (some ⟨W.heap.size + 1 + 1 + 1, 0, none⟩) 6 6] (endsW W x y) fun e w' => e = .returned (.bool true) ∧ Below (endsW W x y).heap.size (endsW W x y) w' := by
  have k0 : Blk (endsW W x y) W.heap.size 3 #[.int .i64 1] := (((Blk.new W 3 #[.int .i64 1]).alloc _).alloc _).alloc _
  have k1 : Blk (endsW W x y) (W.heap.size + 1) 3 #[.int .i64 2, .int .i64 0] := by
    have := Blk.new (W.alloc (.cells #[.int .i64 1] 3)) 3 #[.int .i64 2, .int .i64 0]
    rw [World.size_alloc] at this
    exact (this.alloc _).alloc _
  have k2 : Blk (endsW W x y) (W.heap.size + 1 + 1) 3 #[.int .i64 2, .int .i64 (-1)] := by
    have := Blk.new ((W.alloc (.cells #[.int .i64 1] 3)).alloc (.cells #[.int .i64 2, .int .i64 0] 3)) 3 #[.int .i64 2, .int .i64 (-1)]
    rw [World.size_alloc, World.size_alloc] at this
    exact this.alloc _
  have k3 : Blk (endsW W x y) (W.heap.size + 1 + 1 + 1) 27 (encPs (endsP W.heap.size x y)).toArray := by
    have := Blk.new (((W.alloc (.cells #[.int .i64 1] 3)).alloc (.cells #[.int .i64 2, .int .i64 0] 3)).alloc (.cells #[.int .i64 2, .int .i64 (-1)] 3)) 27 (encPs (endsP W.heap.size x y)).toArray
    rw [World.size_alloc, World.size_alloc, World.size_alloc] at this
    exact this
  refine plays_ok (B := (endsW W x y).heap.size) (ps := endsP W.heap.size x y) (blk_reads3 k3 (by rw [encPs_len]; rfl)) (fun p hp => ?_) (Nat.le_refl _) (by omega)
  simp only [endsP, List.mem_cons, List.not_mem_nil, or_false] at hp
  rcases hp with rfl | rfl | rfl | rfl | rfl | rfl
  · exact ⟨blk_reads (xs := lits [1]) k0 rfl, by simp, by simp, hx, by simp⟩
  · exact ⟨blk_reads (xs := lits [2, 0]) k1 rfl, by simp, by simp, hy, by simp⟩
  · exact ⟨blk_reads (xs := lits [2, -1]) k2 rfl, by simp, by simp, hy, by simp⟩
  · exact ⟨Reads.none_, by simp, by simp, hx, by simp⟩
  · exact ⟨Reads.none_, by simp, by simp, hy, by simp⟩
  · exact ⟨Reads.none_, by simp, by simp, hy, by simp⟩
theorem SmI.set {w W : World} (h : SmI w W) {p : Addr} (hp : w.heap.size < p.block) (v : Value) : SmI w (W.setCell p v) := ⟨h.below.setCell (Nat.le_of_lt hp) v, h.r.far (by omega) v⟩
theorem marks_keep {B C : Nat} {W0 W W' : World} {ds : List Deferred} (h0 : Marks B W0 ds) (h : Marks B W ds) (k : CellsKept C W W') (hC : W0.heap.size ≤ C) : Marks B W' ds :=
  h.keep fun D _ hm => by
    obtain ⟨h1, h2, h3⟩ := h.lt hm
    rw [h3]
    exact k.same D _ h3 (.inr (by have := (h0.lt hm).1; omega))
/-- While the arenas that are none are asked. -/
structure ZI (w : World) (S z : Nat) (ds : List Deferred) (W : World) : Prop where
  sm : SmI w W
  row : Blk W S 31 #[.pointer none, .pointer (some ⟨z, 0, none⟩)]
  dz : Blk W z 39 #[.slice none 0 0, .slice none 0 0, .int .i64 0, .int .i64 0, .int .i64 0, .bool false]
  marks : Marks w.heap.size W ds
theorem ZI.new {w W W' : World} {S z : Nat} {ds : List Deferred} (h : ZI w S z ds W) (hb : Below W.heap.size W W') : ZI w S z ds W' := ⟨h.sm.new hb, h.row.below hb h.row.lt, h.dz.below hb h.dz.lt, h.marks.only (only_of_below [] hb) (by simp)⟩
theorem ZI.ck {w W W' W0 : World} {S z B : Nat} {ds : List Deferred} (hm : Marks w.heap.size W0 ds) (h : ZI w S z ds W) (k : CellsKept B W W') (hB : w.heap.size ≤ B) (hC : W0.heap.size ≤ B) : ZI w S z ds W' :=
  ⟨⟨below_ck h.sm.below (Nat.le_refl _) k hB, h.sm.r.ck k⟩, h.row.ck k, h.dz.ck k, marks_keep hm h.marks k hC⟩
theorem ZI.dead {w W : World} {S z : Nat} {ds : List Deferred} (h : ZI w S z ds W) {p : Value} (hp : p = .pointer none ∨ p = .pointer (some ⟨z, 0, none⟩)) : Dead p W := by
  rcases hp with rfl | rfl
  · exact .inl rfl
  · exact .inr ⟨z, rfl, h.dz⟩
/-- The clauses of the store that gets full. -/
def alK (on : List Int) (k : Nat) : List (Nat × List Int) := (List.range k).map fun i => (i + 1, on)
theorem alK_succ (on : List Int) (k : Nat) : alK on (k + 1) = alK on k ++ [(k + 1, on)] := by simp [alK, List.range_succ]
theorem alK_used (on : List Int) : ∀ k, usedL (alK on k) = k * on.length
  | 0 => by simp [alK, usedL]
  | k + 1 => by rw [alK_succ, usedL_append, alK_used on k, Nat.succ_mul]; simp [usedL]
theorem alK_add {on : List Int} (h1 : on.length = 4096) (h2 : ClOk on) {k : Nat} (hk : k < 256) : addErr (alK on k) k ((k : Int) + 1) on = 0 ∧ addAl (alK on k) k ((k : Int) + 1) on = alK on (k + 1) ∧ addLast (alK on k) k ((k : Int) + 1) on = k + 1 := by
  have he : addErr (alK on k) k ((k : Int) + 1) on = 0 := by
    unfold addErr
    rw [if_neg (by simpa using h2), if_neg (by omega), if_neg (by rw [alK_used, h1]; omega)]
  refine ⟨he, ?_, ?_⟩
  · unfold addAl
    rw [if_pos he, alK_succ, show ((k : Int) + 1).toNat = k + 1 by omega]
  · unfold addLast
    rw [if_pos he]
    omega
theorem used_without : ∀ {al : List (Nat × List Int)} {id : Int} {l : List Int}, SortedA al → look al id = some l → usedL al = usedL (without al id) + l.length
  | [], id, l, _, h => by simp [look] at h
  | c :: t, id, l, hs, h => by
    obtain ⟨h1, h2⟩ := List.pairwise_cons.1 hs
    have hc : usedL (c :: t) = c.2.length + usedL t := by simp [usedL]
    by_cases he : (c.1 : Int) = id
    · have hl : l = c.2 := by
        have : look (c :: t) id = some c.2 := by simp [look, he]
        rw [this] at h
        exact (Option.some.inj h).symm
      have hw : without (c :: t) id = t := by
        unfold without
        rw [List.filter_cons, if_neg (by simpa using he), List.filter_eq_self]
        intro d hd
        have := h1 d hd
        simp
        omega
      rw [hw, hl, hc]
      omega
    · have hl : look t id = some l := by
        rw [← h]
        simp [look, he]
      have hw : without (c :: t) id = c :: without t id := by
        unfold without
        rw [List.filter_cons, if_pos (by simpa using he)]
      have ih := used_without (al := t) h2 hl
      have hc2 : usedL (c :: without t id) = c.2.length + usedL (without t id) := by simp [usedL]
      rw [hw, hc, hc2, ih]
      omega
/-- The store is full, and one literal more; and so on. -/
def alF (on : List Int) : List (Nat × List Int) := alK on 256 ++ [(9999, [])]
def alG4 (on : List Int) : List (Nat × List Int) := without (alF on) 7 ++ [(10000, on)]
theorem full_facts {on : List Int} (h1 : on.length = 4096) (h2 : ClOk on) (hs : AOk (alF on) 9999) :
    usedL (alK on 256) = 1048576 ∧ delErr (alF on) 7 = 0 ∧ usedL (without (alF on) 7) = 1044480 := by
  have hu : usedL (alK on 256) = 1048576 := by rw [alK_used, h1]
  have hl : look (alF on) 7 = some on := (look_some hs.so).2 ⟨7, rfl, List.mem_append_left _ (List.mem_map.2 ⟨6, by simp, rfl⟩)⟩
  refine ⟨hu, if_neg (by rw [hl]; simp), ?_⟩
  have h3 := used_without hs.so hl
  have h4 : usedL (alF on) = 1048576 := by unfold alF; rw [usedL_append, hu]; simp [usedL]
  omega
theorem full_add {on : List Int} (hu : usedL (alK on 256) = 1048576) : (addErr (alK on 256) 256 9999 [1] = 4 ∧ addAl (alK on 256) 256 9999 [1] = alK on 256 ∧ addLast (alK on 256) 256 9999 [1] = 256) ∧ addErr (alK on 256) 256 9999 [] = 0 ∧ addAl (alK on 256) 256 9999 [] = alF on ∧ addLast (alK on 256) 256 9999 [] = 9999 := by
  have he : addErr (alK on 256) 256 9999 [1] = 4 := by
    unfold addErr
    rw [if_neg (by decide), if_neg (by omega), if_pos (by rw [hu]; simp)]
  have he2 : addErr (alK on 256) 256 9999 [] = 0 := by
    unfold addErr
    rw [if_neg (by decide), if_neg (by omega), if_neg (by rw [hu]; simp)]
  exact ⟨⟨he, if_neg (by rw [he]; decide), if_neg (by rw [he]; decide)⟩, he2, if_pos he2, if_pos he2⟩
theorem full_more {on : List Int} (h1 : on.length = 4096) (h2 : ClOk on) (hu : usedL (without (alF on) 7) = 1044480) : (addErr (without (alF on) 7) 9999 10000 on = 0 ∧ addAl (without (alF on) 7) 9999 10000 on = alG4 on ∧ addLast (without (alF on) 7) 9999 10000 on = 10000) ∧ usedL (alG4 on) = 1048576 ∧ addErr (alG4 on) 10000 10001 [0] = 20 ∧ addAl (alG4 on) 10000 10001 [0] = alG4 on ∧ addLast (alG4 on) 10000 10001 [0] = 10000 := by
  have he : addErr (without (alF on) 7) 9999 10000 on = 0 := by
    unfold addErr
    rw [if_neg (by simpa using h2), if_neg (by omega), if_neg (by rw [hu, h1]; omega)]
  have he2 : addErr (alG4 on) 10000 10001 [0] = 20 := if_pos (by decide)
  refine ⟨⟨he, if_pos he, if_pos he⟩, ?_, he2, if_neg (by rw [he2]; decide), if_neg (by rw [he2]; decide)⟩
  unfold alG4
  rw [usedL_append, hu]
  simp [usedL, h1]
set_option maxRecDepth 100000 in
theorem small_in (m : Nat) (hm1 : 3 ≤ m) (w : World) : CallsIn Fence.wide m Try.prog 4 #[] w fun e w' => e = .returned (.bool true) ∧ Below w.heap.size w w' := by
  obtain ⟨i0, hi, hz0, hz1, hz2⟩ := info_parts info27
  refine callsIn_of_wp_marks Try.func4 rfl trivial ?_ rfl
  simp only [Try.ntmps4, List.size_toArray, List.length_cons, List.length_nil, Nat.reduceAdd, Nat.reduceSub, Array.replicate_succ, Array.replicate_zero, List.push_toArray, List.append_toArray, List.nil_append, List.cons_append]
  refine wpIn_wide.2 ?_
  go_upto_region 1 with (fail)
  have hS : SmI w (w.alloc (.cells #[.bool false] 4)) := ⟨(Below.refl _ _).alloc (Nat.le_refl _) _, Blk.new w 4 _⟩
  generalize w.alloc (.cells #[.bool false] 4) = w1 at *
  go_wp2_with fail
  go_loopw [22] (fun i wr => ∃ k : Nat, k ≤ 4096 ∧ i = .int .i64 k ∧ SmI w wr) (fun i _ => 4096 - (intOf i).toNat)
  case atStart => exact ⟨0, by omega, rfl, hS⟩
  case round =>
    clear hS
    obtain ⟨k, hk, rfl, hS⟩ := hrel
    obtain ⟨W0, rfl⟩ : ∃ W0, W0 = wr := ⟨_, rfl⟩
    by_cases hlt : k < 4096
    · have t1 : (k : Int) < 4096 := by omega
      have t2 : 0 ≤ (k : Int) := by omega
      go_wp2_with fail
      go_loopw [2, 3, 4] (fun l i v wz => ∃ (j x : Nat) (ps : List PA), j ≤ 6 ∧ x ≤ 4096 ∧ i = .int .i64 j ∧ v = .int .i64 x ∧ ps.length = j ∧ wz.ownsRow W0.heap.size 27 3 l j (encPs ps) ∧ (∀ p ∈ ps, PQ wz p) ∧ Below W0.heap.size W0 wz) (fun _ i _ _ => 6 - (intOf i).toNat)
      case atStart => exact ⟨0, k, [], by omega, by omega, rfl, rfl, rfl, World.ownsRow_nil _ _ _ _, by simp, Below.refl _ _⟩
      case round =>
        obtain ⟨j, x, ps, hj, hx, rfl, rfl, hpl, hv, hps, hB⟩ := hrel
        obtain ⟨A3, c3, rfl⟩ := own_form hv
        by_cases hj6 : j < 6
        · have u1 : (j : Int) < 6 := by omega
          have u2 : 0 ≤ (j : Int) := by omega
          have u3 : 0 ≤ (x : Int) := by omega
          have u4 : (x : Int) ≤ 4096 := by omega
          have hbb : Below wr.heap.size wr ((wr.alloc (.cells #[.int .i64 1, .int .i64 (-2), .int .i64 3, .int .i64 3] 3)).alloc (.cells #[.int .u8 (((j : Int) + (x : Int)) % 4), .int .i64 (1 + ((x : Int) + (j : Int)) % 4), .slice (some ⟨wr.heap.size, 0, none⟩) (x % 4) 4] 27)) := ((Below.refl _ _).alloc (Nat.le_refl _) _).alloc (by simp) _
          have hbk := (Blk.new wr 3 #[.int .i64 1, .int .i64 (-2), .int .i64 3, .int .i64 3]).alloc (.cells #[.int .u8 (((j : Int) + (x : Int)) % 4), .int .i64 (1 + ((x : Int) + (j : Int)) % 4), .slice (some ⟨wr.heap.size, 0, none⟩) (x % 4) 4] 27)
          have hrl := lit_readsN (wr.alloc (.cells #[.int .i64 1, .int .i64 (-2), .int .i64 3, .int .i64 3] 3)) 27 [.int .u8 (((j : Int) + (x : Int)) % 4), .int .i64 (1 + ((x : Int) + (j : Int)) % 4), .slice (some ⟨wr.heap.size, 0, none⟩) (x % 4) 4] 3 rfl
          rw [World.size_alloc] at hrl
          have hfin : ∀ (v' : Value) (w3 : World), w3.ownsRow W0.heap.size 27 3 v' (j + 1) (encPs ps ++ [.int .u8 (((j : Int) + (x : Int)) % 4), .int .i64 (1 + ((x : Int) + (j : Int)) % 4), .slice (some ⟨wr.heap.size, 0, none⟩) (x % 4) 4]) → ((wr.alloc (.cells #[.int .i64 1, .int .i64 (-2), .int .i64 3, .int .i64 3] 3)).alloc (.cells #[.int .u8 (((j : Int) + (x : Int)) % 4), .int .i64 (1 + ((x : Int) + (j : Int)) % 4), .slice (some ⟨wr.heap.size, 0, none⟩) (x % 4) 4] 27)).grownBy w3 (Value.slice A3 j c3).ownBlock →
              ∃ ps' : List PA, ps'.length = j + 1 ∧ w3.ownsRow W0.heap.size 27 3 v' (j + 1) (encPs ps') ∧ (∀ p ∈ ps', PQ w3 p) ∧ Below W0.heap.size W0 w3 := by
            intro v' w3 h1 h2
            have hB2 := hB.trans (hbb.mono hB.size)
            have hB3 := own_below hB2 hB2.size (row_new hv hbb) h2
            have hb3 : Blk w3 wr.heap.size 3 #[.int .i64 1, .int .i64 (-2), .int .i64 3, .int .i64 3] := hbk.grown h2 (fun e => by have := (hv.lt _ e.symm).2; omega)
            have hm4 : x % 4 ≤ 4 := by omega
            have hlen : (([1, -2, 3, 3] : List Int).take (x % 4)).length = x % 4 := by simp; omega
            refine ⟨ps ++ [⟨((j : Int) + (x : Int)) % 4, 1 + ((x : Int) + (j : Int)) % 4, some ⟨wr.heap.size, 0, none⟩, 4, ([1, -2, 3, 3] : List Int).take (x % 4)⟩], by simp [hpl], ?_, fun p hp => ?_, hB3⟩
            · rw [encPs_snoc, encPA, hlen]
              exact h1
            · rcases List.mem_append.1 hp with hp | hp
              · exact ((hps p hp).new hbb).grown (row_new hv hbb) h2
              · rw [List.mem_singleton] at hp
                subst hp
                exact ⟨wr.heap.size, x % 4, hm4, rfl, rfl, rfl, hb3, by show 0 ≤ ((j : Int) + (x : Int)) % 4 ∧ ((j : Int) + (x : Int)) % 4 ≤ 255; omega, by show -9223372036854775808 ≤ 1 + ((x : Int) + (j : Int)) % 4 ∧ 1 + ((x : Int) + (j : Int)) % 4 ≤ 9223372036854775807; omega⟩
          replace hfin := Lib.hid hfin
          go_wp2_with (at_builtin; refine wpList_append_any _ rfl _ _ 22 rfl W0.heap.size 27 i0 _ 3 40 Try.underlying22 hi hz0 hz1 hz2 rfl (by omega) (.slice A3 j c3) j (encPs ps) rfl (row_new hv hbb) (wr.heap.size + 1 + 1) (some ⟨wr.heap.size + 1, 0, none⟩) 1 1 [.int .u8 (((j : Int) + (x : Int)) % 4), .int .i64 (1 + ((x : Int) + (j : Int)) % 4), .slice (some ⟨wr.heap.size, 0, none⟩) (x % 4) 4] rfl hrl (by simp [Value.oneCell']) (by simp only [maxLen]; omega) (by omega) (by have := hB.size; simp; omega) ?_; intro v' w3 hown hgrow hat; obtain ⟨ps', f1, f2, f3, f4⟩ := hfin.out v' w3 hown hgrow)
          go_roundw
          case rel => exact ⟨j + 1, x / 4, ps', by omega, by omega, by go_num, by first | rfl | (congr 1; omega) | (congr 1), f1, f2, f3, f4⟩
          case measure => simp [intOf]; omega
        · obtain rfl : j = 6 := by omega
          have hpl2 : ∀ W, Below wr.heap.size wr W → Calls Try.prog 11 #[.slice A3 6 c3] W fun e w' => e = .returned (.bool true) ∧ Below W.heap.size W w' := fun W hW => plays_ok (B := W.heap.size) (by have := Reads.of_own (row_new hv hW); exact this) (fun p hp => ((hps p hp).new hW).ok) (Nat.le_refl _) (by omega)
          have hS2 := hS.new hB
          have hp := hpl2 wr (Below.refl _ _)
          replace hp := Lib.hid hp
          clear hpl2 hv hps hB hS hpl
          by_cases hk7 : k % 7 < 2
          all_goals
            have hkb : decide ((k : Int) % 7 < 2) = decide (k % 7 < 2) := by
              by_cases h : k % 7 < 2
              · rw [decide_eq_true h, decide_eq_true (by omega)]
              · rw [decide_eq_false h, decide_eq_false (by omega)]
            first | (have hk8 : (k : Int) % 7 < 2 := by omega) | (have hk8 : ¬ (k : Int) % 7 < 2 := by omega)
            first | rw [decide_eq_true hk7] at hkb | rw [decide_eq_false hk7] at hkb
            clear hk7
            go_wp2_with (go_at_call 11; refine hp.out.mono ?_; rintro e W9 ⟨rfl, hB9⟩; have hS3 := hS2.new hB9; clear hS2; have hS2 := hS3)
            go_roundw
            case rel => exact ⟨k + 1, by omega, by go_num, hS2⟩
            case measure => simp [intOf]; omega
    · obtain rfl : k = 4096 := by omega
      rw [show ((4096 : Nat) : Int) = 4096 from rfl]
      go_upto_region 13 with fail
      have k5 : Blk (W0.alloc (.cells endsC 3)) W0.heap.size 3 endsC := Blk.new W0 3 endsC
      have hS2 : SmI w (W0.alloc (.cells endsC 3)) := hS.new ((Below.refl _ _).alloc (Nat.le_refl _) _)
      unfold endsC at k5 hS2
      obtain ⟨b5, hb5⟩ : ∃ b5, b5 = W0.heap.size := ⟨_, rfl⟩
      rw [← hb5] at k5 ⊢
      generalize W0.alloc (.cells #[.int .i64 (-9223372036854775808), .int .i64 (-1), .int .i64 0, .int .i64 1, .int .i64 1073741823, .int .i64 1073741824, .int .i64 1073741825] 3) = W5 at *
      replace k5 : Blk W5 b5 3 endsC := k5
      clear hS hb5
      go_wp2_with fail
      go_loopw [62] (fun i wr => ∃ k : Nat, k ≤ 7 ∧ i = .int .i64 k ∧ SmI w wr ∧ Blk wr b5 3 endsC) (fun i _ => 7 - (intOf i).toNat)
      case atStart => exact ⟨0, by omega, rfl, hS2, k5⟩
      case round =>
        clear hS2 k5
        obtain ⟨k, hk, rfl, hS, k5⟩ := hrel
        by_cases hlt : k < 7
        · obtain ⟨x, q0, hx⟩ := ends_at k5 hlt
          have t1 : (k : Int) < 7 := by omega
          have t2 : 0 ≤ (k : Int) := by omega
          replace hx := Lib.hid hx
          go_wp2_with fail
          go_loopw [68] (fun i wr => ∃ k : Nat, k ≤ 7 ∧ i = .int .i64 k ∧ SmI w wr ∧ Blk wr b5 3 endsC) (fun i _ => 7 - (intOf i).toNat)
          case atStart => exact ⟨0, by omega, rfl, hS, k5⟩
          case round =>
            clear hS k5 q0
            obtain ⟨j, hj, rfl, hS, k5⟩ := hrel
            by_cases hjl : j < 7
            · obtain ⟨y, q0, hy⟩ := ends_at k5 hjl
              have u1 : (j : Int) < 7 := by omega
              have u2 : 0 ≤ (j : Int) := by omega
              have hp := ends_plays wr hx.out hy
              have hbw := endsW_below wr x y
              have hfin : ∀ W', Below (endsW wr x y).heap.size (endsW wr x y) W' → SmI w W' ∧ Blk W' b5 3 endsC := fun W' hW' => ⟨hS.new (hbw.trans (hW'.mono hbw.size)), k5.below (hbw.trans (hW'.mono hbw.size)) k5.lt⟩
              unfold endsW at hp hfin
              simp only [endsP, encPs, encPA, List.flatMap_cons, List.flatMap_nil, List.cons_append, List.nil_append, List.append_nil, List.length_cons, List.length_nil, Nat.reduceAdd] at hp hfin
              replace hp := Lib.hid hp
              replace hfin := Lib.hid hfin
              clear hbw hS k5
              replace hy := Lib.hid hy
              go_wp2_with (go_at_call 11; refine hp.out.mono ?_; rintro e W9 ⟨rfl, hB9⟩; obtain ⟨hS, k5⟩ := hfin.out W9 hB9)
              go_roundw
              case rel => exact ⟨j + 1, by omega, by go_num, hS, k5⟩
              case measure => simp [intOf]; omega
            · obtain rfl : j = 7 := by omega
              rw [show ((7 : Nat) : Int) = 7 from rfl]
              go_wp2_with fail
              go_roundw
              case rel => exact ⟨k + 1, by omega, by go_num, hS, k5⟩
              case measure => simp [intOf]; omega
        · obtain rfl : k = 7 := by omega
          rw [show ((7 : Nat) : Int) = 7 from rfl]
          clear k5
          have hmk := run_make_row' (P := Try.prog) 29 30 (.int .i64 0) 8 Try.underlying29 info30 rfl .i64 .i64 4096 (by omega) (by omega)
          rw [show ((4096 : Nat) : Int) = 4096 from rfl] at hmk
          go_upto_region 24 with fail
          clear hmk
          have kl : Blk (wr.alloc (.cells (madeCells #[.int .i64 0] 4096) 30)) wr.heap.size 30 (thereL (fun k => decide (0 ≤ k)) 4096).toArray := by
            have := Blk.new wr 30 (madeCells #[.int .i64 0] 4096)
            rw [thereL_zero] at this ⊢
            exact this
          have hS6 : SmI w (wr.alloc (.cells (madeCells #[.int .i64 0] 4096) 30)) := hS.new ((Below.refl _ _).alloc (Nat.le_refl _) _)
          have hbl : w.heap.size < wr.heap.size := hS.lt
          obtain ⟨bl, hbl'⟩ : ∃ bl, bl = wr.heap.size := ⟨_, rfl⟩
          rw [← hbl'] at kl hbl ⊢
          generalize wr.alloc (.cells (madeCells #[.int .i64 0] 4096) 30) = W6 at *
          clear hS hbl'
          go_wp2_with fail
          go_loopw [95] (fun i wr => ∃ k : Nat, k ≤ 4096 ∧ i = .int .i64 k ∧ SmI w wr ∧ Blk wr bl 30 (thereL (fun j => decide (k ≤ j)) 4096).toArray) (fun i _ => 4096 - (intOf i).toNat)
          case atStart => exact ⟨0, by omega, rfl, hS6, kl⟩
          case round =>
            clear hS6 kl
            obtain ⟨k, hk, rfl, hS, kl⟩ := hrel
            by_cases hlt : k < 4096
            · have t1 : (k : Int) < 4096 := by omega
              have t2 : 0 ≤ (k : Int) := by omega
              have q0 := kl.cell k
              rw [List.getElem?_toArray, thereL_at hlt, if_pos (by simp)] at q0
              have z0 := kl.frozen k
              have hll := kl.lt
              have hfin : SmI w (wr.setCell ⟨bl, k, none⟩ (.int .i64 1)) ∧ Blk (wr.setCell ⟨bl, k, none⟩ (.int .i64 1)) bl 30 (thereL (fun j => decide (k + 1 ≤ j)) 4096).toArray := by
                refine ⟨hS.set hbl _, ?_⟩
                have h1 := kl.set_ k (.int .i64 1)
                rw [List.setIfInBounds_toArray, thereL_set (G' := fun j => decide (k + 1 ≤ j)) (x := 1) (by simp) (fun j _ hj => by simp; omega)] at h1
                exact h1
              replace hfin := Lib.hid hfin
              clear hS kl
              go_wp2_with fail
              go_roundw
              case rel => exact ⟨k + 1, by omega, by go_num, hfin.out.1, hfin.out.2⟩
              case measure => simp [intOf]; omega
            · obtain rfl : k = 4096 := by omega
              rw [show ((4096 : Nat) : Int) = 4096 from rfl]
              obtain ⟨on, hon1, hon2, hone⟩ : ∃ on : List Int, on.length = 4096 ∧ ClOk on ∧ thereL (fun j => decide (4096 ≤ j)) 4096 = lits on := by
                refine ⟨List.replicate 4096 1, by simp, ⟨by simp, fun x hx => ?_⟩, ?_⟩
                · rw [(List.mem_replicate.1 hx).2]; decide
                · apply List.ext_getElem?
                  intro j
                  by_cases hj : j < 4096
                  · rw [thereL_at hj, if_neg (by simp; omega), lits, List.getElem?_map, List.getElem?_replicate, if_pos hj]; rfl
                  · rw [List.getElem?_eq_none (by rw [thereL_len]; omega), List.getElem?_eq_none (by simp [lits]; omega)]
              rw [hone] at kl
              clear hone
              replace hon2 := Lib.hid hon2
              replace hon1 := Lib.hid hon1
              obtain ⟨WN, rfl⟩ : ∃ WN, WN = wr := ⟨_, rfl⟩
              have hlr : ∀ W, Below WN.heap.size WN W → Reads W W.heap.size 1 (some ⟨bl, 0, none⟩) 4096 (lits on) := fun W hW => blk_reads (kl.below hW kl.lt) (by simp [lits]; exact hon1.out)
              replace hlr := Lib.hid hlr
              clear kl
              go_wp2_with (go_at_call 13; refine (run_new (w := WN) (Below.refl _ _)).mono ?_; rintro e W7 ⟨d, rfl, hR⟩)
              go_loopw [105] (fun i wr => ∃ k : Nat, k ≤ 256 ∧ i = .int .i64 k ∧ Run WN [] [] d (alK on k) k wr) (fun i _ => 256 - (intOf i).toNat)
              case atStart => exact ⟨0, by omega, rfl, hR⟩
              case round =>
                clear hR
                obtain ⟨k, hk, rfl, hR⟩ := hrel
                by_cases hlt : k < 256
                · have hadd := alK_add hon1.out hon2.out hlt
                  have t1 : (k : Int) < 256 := by omega
                  have t2 : 0 ≤ (k : Int) := by omega
                  replace hadd := Lib.hid hadd
                  go_wp2_with (go_at_call 14; refine (run_add hR (hlr.out _ hR.below) (Nat.le_refl _) (by omega) _ hadd.out.1 hadd.out.2.1 hadd.out.2.2).mono ?_; rintro e W8 ⟨rfl, hR2⟩)
                  go_roundw
                  case rel => exact ⟨k + 1, by omega, by go_num, hR2⟩
                  case measure => simp [intOf]; omega
                · obtain rfl : k = 256 := by omega
                  rw [show ((256 : Nat) : Int) = 256 from rfl]
                  have hu : usedL (alK on 256) = 1048576 := by rw [alK_used, hon1.out]
                  have hfa := full_add hu
                  have hf2 : ∀ W, Run WN [] [] d (alF on) 9999 W → delErr (alF on) 7 = 0 ∧ (addErr (without (alF on) 7) 9999 10000 on = 0 ∧ addAl (without (alF on) 7) 9999 10000 on = alG4 on ∧ addLast (without (alF on) 7) 9999 10000 on = 10000) ∧ usedL (alG4 on) = 1048576 ∧ addErr (alG4 on) 10000 10001 [0] = 20 ∧ addAl (alG4 on) 10000 10001 [0] = alG4 on ∧ addLast (alG4 on) 10000 10001 [0] = 10000 := fun W h => by
                    obtain ⟨f1, f2, f3⟩ := full_facts hon1.out hon2.out h.ok
                    exact ⟨f2, full_more hon1.out hon2.out f3⟩
                  replace hfa := Lib.hid hfa
                  replace hf2 := Lib.hid hf2
                  have s0 := Lib.hid trivial
                  have s1 := Lib.hid trivial
                  have s2 := Lib.hid trivial
                  go_upto_region 40 with (first
                    | (go_at_call 14; clear s0; refine (run_add (hR.lit _) (lit_reads _ 30 (lits [1])) (Nat.le_refl _) (by decide) 9999 hfa.out.1.1 hfa.out.1.2.1 hfa.out.1.2.2).mono ?_; rintro e W8 ⟨rfl, hR2⟩; clear hR; have hR := hR2; clear hR2)
                    | (go_at_call 14; clear s1; refine (run_add hR (nil_reads _) (Nat.le_refl _) (by decide) 9999 hfa.out.2.1 hfa.out.2.2.1 hfa.out.2.2.2).mono ?_; rintro e W9 ⟨rfl, hR2⟩; clear hR; have hR := hR2; clear hR2; have hf3 := Lib.hid (hf2.out _ hR))
                    | (go_at_call 15; refine (run_del hR 7 (by omega) hf3.out.1 rfl).mono ?_; rintro e W10 ⟨rfl, hR2⟩; clear hR; have hR := hR2; clear hR2)
                    | (go_at_call 14; clear s2; refine (run_add hR (hlr.out _ hR.below) (Nat.le_refl _) (by omega) 10000 hf3.out.2.1.1 hf3.out.2.1.2.1 hf3.out.2.1.2.2).mono ?_; rintro e W11 ⟨rfl, hR2⟩; clear hR; have hR := hR2; clear hR2)
                    | (go_at_call 16; refine (run_used hR (n := 1048576) (by rw [hf3.out.2.2.1]; rfl)).mono ?_; rintro e W12 ⟨rfl, rfl⟩)
                    | (go_at_call 14; refine (run_add (hR.lit _) (lit_reads _ 30 (lits [0])) (Nat.le_refl _) (by decide) 10001 hf3.out.2.2.2.1 hf3.out.2.2.2.2.1 hf3.out.2.2.2.2.2).mono ?_; rintro e W13 ⟨rfl, hR2⟩; have hS8 := hS.new hR2.below; clear hR hR2))
                  clear hlr
                  go_wp2_with fail
                  have hdz := (Blk.new W13 39 #[.slice none 0 0, .slice none 0 0, .int .i64 0, .int .i64 0, .int .i64 0, .bool false]).alloc (.cells #[.pointer none, .pointer (some ⟨W13.heap.size, 0, none⟩)] 31)
                  have hrow := Blk.new (W13.alloc (.cells #[.slice none 0 0, .slice none 0 0, .int .i64 0, .int .i64 0, .int .i64 0, .bool false] 39)) 31 #[.pointer none, .pointer (some ⟨W13.heap.size, 0, none⟩)]
                  rw [World.size_alloc] at hrow
                  have hZ : ZI w (W13.heap.size + 1) W13.heap.size [] ((W13.alloc (.cells #[.slice none 0 0, .slice none 0 0, .int .i64 0, .int .i64 0, .int .i64 0, .bool false] 39)).alloc (.cells #[.pointer none, .pointer (some ⟨W13.heap.size, 0, none⟩)] 31)) := ⟨hS8.new (((Below.refl _ _).alloc (Nat.le_refl _) _).alloc (by simp) _), hrow, hdz, trivial⟩
                  clear hdz hrow hS8
                  generalize (W13.alloc (.cells #[.slice none 0 0, .slice none 0 0, .int .i64 0, .int .i64 0, .int .i64 0, .bool false] 39)).alloc (.cells #[.pointer none, .pointer (some ⟨W13.heap.size, 0, none⟩)] 31) = WZ at *
                  generalize hSz : W13.heap.size + 1 = S at *
                  generalize W13.heap.size = z at *
                  clear hSz
                  refine (wpIn_wide (n := m)).1 ?_
                  refine wpIn_loop_rounds 3 ?_
                  rw [roundsIn_succ]
                  refine wpIn_wide.2 ?_
                  have r0 := hZ.row.cell 0
                  have r1 := hZ.row.cell 1
                  simp only [List.getElem?_toArray, List.getElem?_cons_succ, List.getElem?_cons_zero] at r0 r1
                  have hdd : ∀ W, Below WZ.heap.size WZ W → Dead (.pointer none) W := fun W hb => (hZ.new hb).dead (.inl rfl)
                  have h17 := get_dead (hdd WZ (Below.refl _ _)) 1
                  replace h17 := Lib.hid h17
                  replace hdd := Lib.hid hdd
                  go_wp2_with (first
                    | (go_at_call 17; (with_reducible refine h17.out.mono ?_); rintro e Y1 ⟨rfl, hY1⟩; clear h17; have h18 := len_dead (hdd.out _ hY1) 1; replace h18 := Lib.hid h18)
                    | (go_at_call 18; (with_reducible refine h18.out.mono ?_); rintro e Y2 ⟨rfl, hY2⟩; clear h18; have h19 := lit_dead (hdd.out _ (hY1.trans (hY2.mono hY1.size))) 1 0; replace h19 := Lib.hid h19)
                    | (go_at_call 19; (with_reducible refine h19.out.mono ?_); rintro e Y3 ⟨rfl, hY3⟩; clear h19; have hY := (hY1.trans (hY2.mono hY1.size)).trans (hY3.mono (Nat.le_trans hY1.size hY2.size)); have hZ3 := hZ.new hY; have h20 := all_dead (hdd.out _ hY); replace h20 := Lib.hid h20; clear hY hdd r0 r1)
                    | (go_at_call 20; (with_reducible refine h20.out.mono ?_); rintro e Y4 ⟨rfl, hww⟩; cases hww; clear h20))
                  clear hZ hY1 hY2 hY3
                  have hZ := hZ3.new ((Below.refl _ Y3).alloc (Nat.le_refl _) (.cells #[.pointer none] 31))
                  have hbt := Blk.new Y3 31 #[.pointer none]
                  clear hZ3
                  generalize Y3.alloc (.cells #[.pointer none] 31) = WR at *
                  generalize Y3.heap.size = Bt at *
                  clear WZ Y1 Y2 Y3
                  have hsW := hZ.sm.below.size
                  have hmW := hZ.marks
                  rename_i hcont
                  replace hcont := Lib.hid hcont
                  refine (wpIn_wide (n := m)).1 ?_
                  refine wpIn_range2_join rfl (enters_of Try.func42 (by kernel_rfl) rfl) (seq42_dead (.pointer none) Bt) (fun _ => rfl)
                    (fun fp _ W => fp = [] ∧ ZI w S z [] W ∧ Blk W Bt 31 #[.pointer none]) (fun _ _ => False)
                    (fun fp => ownFrom_of fun x W W' kk hI => ⟨hI.1, hI.2.1.ck hmW kk hsW (Nat.le_refl _), hI.2.2.ck kk⟩) (ownFrom_of fun _ _ _ kk h => h) (fun fp pre W hI => ⟨hI.2.2, hI.2.1.dead (.inl rfl)⟩) [] (by simp) ⟨rfl, hZ, hbt⟩
                    (fun _ _ _ _ _ _ _ => False) (fun _ _ _ _ _ => ownFrom_of fun _ _ _ _ h => h) (fun _ _ _ _ _ _ _ _ _ _ _ hX _ => hX.elim) 14 (fun _ _ h => h) (fun _ _ _ _ _ _ _ _ _ _ _ hA => hA.elim) (ZI w S z []) (fun fp xs W _ hI => hI.2.1) (fun xs W l o o' _ _ _ h => h) (fun _ _ h => h.elim) ?fin0
                  case fin0 =>
                    intro Da0 WS hDa0 hG hDm
                    refine hcont.out _ _ ?_
                    clear hcont
                    dsimp only
                    have hGd : ZI w S z ({ target := .collected Da0, args := #[] } :: []) WS := ⟨hG.sm, hG.row, hG.dz, hG.marks.push (by omega) hDm (fun D' hm => by have := (hmW.lt hm).1; omega)⟩
                    clear hZ hbt hsW hmW hG hDa0 hDm
                    clear WR
                    have hdd := hGd.dead (p := .pointer none) (.inl rfl)
                    have h14 := add_dead hdd 0
                    replace h14 := Lib.hid h14
                    have h15 := del_dead hdd 1
                    replace h15 := Lib.hid h15
                    have h21 := has_dead hdd 1
                    replace h21 := Lib.hid h21
                    have h22 := count_dead hdd
                    replace h22 := Lib.hid h22
                    have h16 := used_dead hdd
                    replace h16 := Lib.hid h16
                    have h23 := held_dead hdd
                    replace h23 := Lib.hid h23
                    have h24 := last_dead hdd
                    replace h24 := Lib.hid h24
                    clear hdd
                    go_wp2_with (first
                      | (go_at_call 14; (with_reducible refine h14.out.mono ?_); rintro e wx ⟨rfl, hww⟩; cases hww; clear h14)
                      | (go_at_call 15; (with_reducible refine h15.out.mono ?_); rintro e wx ⟨rfl, hww⟩; cases hww; clear h15)
                      | (go_at_call 21; (with_reducible refine h21.out.mono ?_); rintro e wx ⟨rfl, hww⟩; cases hww; clear h21)
                      | (go_at_call 22; (with_reducible refine h22.out.mono ?_); rintro e wx ⟨rfl, hww⟩; cases hww; clear h22)
                      | (go_at_call 16; (with_reducible refine h16.out.mono ?_); rintro e wx ⟨rfl, hww⟩; cases hww; clear h16)
                      | (go_at_call 23; (with_reducible refine h23.out.mono ?_); rintro e wx ⟨rfl, hww⟩; cases hww; clear h23)
                      | (go_at_call 24; (with_reducible refine h24.out.mono ?_); rintro e wx ⟨rfl, hww⟩; cases hww; clear h24)
                      | (refine ⟨trivial, ?_⟩))
                    have hZ := hGd
                    clear hGd
                    obtain ⟨WZ, hWZ⟩ : ∃ WZ, WZ = WS := ⟨_, rfl⟩
                    rw [← hWZ] at hZ ⊢
                    clear hWZ WS
                    rw [roundsIn_succ]
                    refine wpIn_wide.2 ?_
                    have r0 := hZ.row.cell 0
                    have r1 := hZ.row.cell 1
                    simp only [List.getElem?_toArray, List.getElem?_cons_succ, List.getElem?_cons_zero] at r0 r1
                    have hdd : ∀ W, Below WZ.heap.size WZ W → Dead (.pointer (some ⟨z, 0, none⟩)) W := fun W hb => (hZ.new hb).dead (.inr rfl)
                    have h17 := get_dead (hdd WZ (Below.refl _ _)) 1
                    replace h17 := Lib.hid h17
                    replace hdd := Lib.hid hdd
                    go_wp2_with (first
                      | (go_at_call 17; (with_reducible refine h17.out.mono ?_); rintro e Y1 ⟨rfl, hY1⟩; clear h17; have h18 := len_dead (hdd.out _ hY1) 1; replace h18 := Lib.hid h18)
                      | (go_at_call 18; (with_reducible refine h18.out.mono ?_); rintro e Y2 ⟨rfl, hY2⟩; clear h18; have h19 := lit_dead (hdd.out _ (hY1.trans (hY2.mono hY1.size))) 1 0; replace h19 := Lib.hid h19)
                      | (go_at_call 19; (with_reducible refine h19.out.mono ?_); rintro e Y3 ⟨rfl, hY3⟩; clear h19; have hY := (hY1.trans (hY2.mono hY1.size)).trans (hY3.mono (Nat.le_trans hY1.size hY2.size)); have hZ3 := hZ.new hY; have h20 := all_dead (hdd.out _ hY); replace h20 := Lib.hid h20; clear hY hdd r0 r1)
                      | (go_at_call 20; (with_reducible refine h20.out.mono ?_); rintro e Y4 ⟨rfl, hww⟩; cases hww; clear h20))
                    clear hZ hY1 hY2 hY3
                    have hZ := hZ3.new ((Below.refl _ Y3).alloc (Nat.le_refl _) (.cells #[.pointer (some ⟨z, 0, none⟩)] 31))
                    have hbt := Blk.new Y3 31 #[.pointer (some ⟨z, 0, none⟩)]
                    clear hZ3
                    generalize Y3.alloc (.cells #[.pointer (some ⟨z, 0, none⟩)] 31) = WR at *
                    generalize Y3.heap.size = Bt at *
                    clear WZ Y1 Y2 Y3
                    have hsW := hZ.sm.below.size
                    have hmW := hZ.marks
                    rename_i hcont
                    replace hcont := Lib.hid hcont
                    refine (wpIn_wide (n := m)).1 ?_
                    refine wpIn_range2_join rfl (enters_of Try.func42 (by kernel_rfl) rfl) (seq42_dead (.pointer (some ⟨z, 0, none⟩)) Bt) (fun _ => rfl)
                      (fun fp _ W => fp = [] ∧ ZI w S z ({ target := .collected Da0, args := #[] } :: []) W ∧ Blk W Bt 31 #[.pointer (some ⟨z, 0, none⟩)]) (fun _ _ => False)
                      (fun fp => ownFrom_of fun x W W' kk hI => ⟨hI.1, hI.2.1.ck hmW kk hsW (Nat.le_refl _), hI.2.2.ck kk⟩) (ownFrom_of fun _ _ _ kk h => h) (fun fp pre W hI => ⟨hI.2.2, hI.2.1.dead (.inr rfl)⟩) [] (by simp) ⟨rfl, hZ, hbt⟩
                      (fun _ _ _ _ _ _ _ => False) (fun _ _ _ _ _ => ownFrom_of fun _ _ _ _ h => h) (fun _ _ _ _ _ _ _ _ _ _ _ hX _ => hX.elim) 14 (fun _ _ h => h) (fun _ _ _ _ _ _ _ _ _ _ _ hA => hA.elim) (ZI w S z ({ target := .collected Da0, args := #[] } :: [])) (fun fp xs W _ hI => hI.2.1) (fun xs W l o o' _ _ _ h => h) (fun _ _ h => h.elim) ?fin1
                    case fin1 =>
                      intro Da1 WS hDa1 hG hDm
                      refine hcont.out _ _ ?_
                      clear hcont
                      dsimp only
                      have hGd : ZI w S z ({ target := .collected Da1, args := #[] } :: ({ target := .collected Da0, args := #[] } :: [])) WS := ⟨hG.sm, hG.row, hG.dz, hG.marks.push (by omega) hDm (fun D' hm => by have := (hmW.lt hm).1; omega)⟩
                      clear hZ hbt hsW hmW hG hDa1 hDm
                      clear WR
                      have hdd := hGd.dead (p := .pointer (some ⟨z, 0, none⟩)) (.inr rfl)
                      have h14 := add_dead hdd 0
                      replace h14 := Lib.hid h14
                      have h15 := del_dead hdd 1
                      replace h15 := Lib.hid h15
                      have h21 := has_dead hdd 1
                      replace h21 := Lib.hid h21
                      have h22 := count_dead hdd
                      replace h22 := Lib.hid h22
                      have h16 := used_dead hdd
                      replace h16 := Lib.hid h16
                      have h23 := held_dead hdd
                      replace h23 := Lib.hid h23
                      have h24 := last_dead hdd
                      replace h24 := Lib.hid h24
                      clear hdd
                      go_wp2_with (first
                        | (go_at_call 14; (with_reducible refine h14.out.mono ?_); rintro e wx ⟨rfl, hww⟩; cases hww; clear h14)
                        | (go_at_call 15; (with_reducible refine h15.out.mono ?_); rintro e wx ⟨rfl, hww⟩; cases hww; clear h15)
                        | (go_at_call 21; (with_reducible refine h21.out.mono ?_); rintro e wx ⟨rfl, hww⟩; cases hww; clear h21)
                        | (go_at_call 22; (with_reducible refine h22.out.mono ?_); rintro e wx ⟨rfl, hww⟩; cases hww; clear h22)
                        | (go_at_call 16; (with_reducible refine h16.out.mono ?_); rintro e wx ⟨rfl, hww⟩; cases hww; clear h16)
                        | (go_at_call 23; (with_reducible refine h23.out.mono ?_); rintro e wx ⟨rfl, hww⟩; cases hww; clear h23)
                        | (go_at_call 24; (with_reducible refine h24.out.mono ?_); rintro e wx ⟨rfl, hww⟩; cases hww; clear h24)
                        | (refine ⟨trivial, ?_⟩))
                      have hZ := hGd
                      clear hGd
                      obtain ⟨WZ, hWZ⟩ : ∃ WZ, WZ = WS := ⟨_, rfl⟩
                      rw [← hWZ] at hZ ⊢
                      clear hWZ WS
                      rw [roundsIn_succ]
                      refine wpIn_wide.2 ?_
                      go_wp2_with (go_at_call 12; refine (awake_ok _).mono ?_; rintro e W11 ⟨rfl, hB11⟩; have hZ11 := hZ.new hB11; have r11 := hZ11.sm.r; have c11 := r11.cell 0; have f11 := r11.frozen 0; simp only [List.getElem?_toArray, List.getElem?_cons_zero] at c11; have hlt11 := r11.lt)
                      have hm12 := hZ11.marks.only (fp := [w.heap.size]) ((Only.refl [w.heap.size] W11).setCell (p := ⟨w.heap.size, 0, none⟩) (.inl (by simp)) (.bool true)) (fun i o hi ho => by rw [List.mem_singleton] at hi; subst hi; exact blk_cells r11 ho)
                      have hb12 := hZ11.sm.below.setCell (p := ⟨w.heap.size, 0, none⟩) (Nat.le_refl _) (.bool true)
                      have hr12 := r11.set_ 0 (.bool true)
                      refine leaves_marks hm12 (fun W12 k12 => ⟨.bool true, ?_, rfl, below_ck hb12 (Nat.le_refl _) k12 (Nat.le_refl _)⟩)
                      have c12 := (hr12.ck k12).cell 0
                      simp at c12
                      simp [results, Try.results4, go_sem, c12]
theorem law_small (w : World) : Calls Try.prog 4 #[] w fun e w' => e = .returned (.bool true) ∧ Below w.heap.size w w' := callsIn_wide.1 (small_in 3 (by omega) w)
end Go.Proofs.Ytlcfgpkokaiogaa
