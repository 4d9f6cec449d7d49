/- Trails: law 6 (what is yielded). -/
import Derived.Test.YtkedepkhcbhcdaaTrlU
import Derived.Test.YtkedepkhcbhcdaaJoin
import Derived.Sort.CutIn
namespace Go.Proofs.Ytkedepkhcbhcdaa
open Go Go.RowKit Go.Shelf
set_option linter.unusedVariables false
set_option linter.unusedSimpArgs false
set_option maxHeartbeats 4000000
/-- Boxes and the rest below the range. -/
structure Bxs (Wp : World) (d : Nat) (A1 : Option Addr) (len c1 : Nat) (a : Int) (W : World) : Prop where
  below : Below Wp.heap.size Wp W
  b9 : Blk W Wp.heap.size 23 #[.pointer (some ⟨d, 0, none⟩)]
  b10 : Blk W (Wp.heap.size + 1) 39 #[.slice A1 len c1]
  b13 : Blk W (Wp.heap.size + 1 + 1) 3 #[.int .i64 a]
section
variable {Wp W W' : World} {d len c1 : Nat} {A1 : Option Addr} {a : Int}
theorem Bxs.ck {B : Nat} (h : Bxs Wp d A1 len c1 a W) (k : CellsKept B W W') (hB : Wp.heap.size ≤ B) : Bxs Wp d A1 len c1 a W' :=
  ⟨below_ck h.below (Nat.le_refl _) k hB, h.b9.ck k, h.b10.ck k, h.b13.ck k⟩
theorem Bxs.only {fq : List Nat} (h : Bxs Wp d A1 len c1 a W) (ho : Only fq W W') (hn : ∀ k, k ∈ fq → Wp.heap.size + 1 + 1 < k) : Bxs Wp d A1 len c1 a W' :=
  ⟨h.below.trans (ho.below h.below.size (fun k hk => by have := hn k hk; omega)), h.b9.only ho (fun hk => by have := hn _ hk; omega), h.b10.only ho (fun hk => by have := hn _ hk; omega), h.b13.only ho (fun hk => by have := hn _ hk; omega)⟩
end
/-- What the first range keeps. -/
def YIn (Wp : World) (d : Nat) (A1 : Option Addr) (c1 : Nat) (ls : List Int) (a s : Nat) (fp : List Nat) (pre : List (Nat × Int)) (W : World) : Prop :=
  ∃ v, fp = (Wp.heap.size + 1 + 1 + 1) :: v.ownBlock.toList ∧ Blk W (Wp.heap.size + 1 + 1 + 1) 39 #[v] ∧ W.ownsRow (Wp.heap.size + 6) 27 1 v pre.length (litV (pre.map (·.2))) ∧ Bxs Wp d A1 ls.length c1 a W ∧
    Blk W (Wp.heap.size + 1 + 1 + 1 + 1 + 1) 3 #[.int .i64 a] ∧ Blk W (Wp.heap.size + 1 + 1 + 1 + 1) 23 #[.pointer (some ⟨d, 0, none⟩)] ∧ pre.map (·.2) = (ls.drop a).take pre.length ∧ pre.length ≤ (ls.drop a).length ∧ pre.length ≤ s
/-- What is got. -/
def Got (Wp : World) (d : Nat) (A1 : Option Addr) (c1 : Nat) (ls : List Int) (a s : Nat) (W : World) : Prop :=
  ∃ v, Blk W (Wp.heap.size + 1 + 1 + 1) 39 #[v] ∧ W.ownsRow (Wp.heap.size + 6) 27 1 v ((ls.drop a).take s).length (litV ((ls.drop a).take s)) ∧ Bxs Wp d A1 ls.length c1 a W
section
variable {Wp W W' : World} {d c1 a s : Nat} {A1 : Option Addr} {ls : List Int} {fp : List Nat} {pre : List (Nat × Int)}
theorem YIn.ck {B : Nat} (h : YIn Wp d A1 c1 ls a s fp pre W) (k : CellsKept B W W') (hB : Wp.heap.size ≤ B) : YIn Wp d A1 c1 ls a s fp pre W' := by
  obtain ⟨v, h1, h2, h3, h4, h5, h6, h7⟩ := h
  exact ⟨v, h1, h2.ck k, own_ck h3 k, h4.ck k hB, h5.ck k, h6.ck k, h7⟩
theorem Got.ck {B : Nat} (h : Got Wp d A1 c1 ls a s W) (k : CellsKept B W W') (hB : Wp.heap.size ≤ B) : Got Wp d A1 c1 ls a s W' := by
  obtain ⟨v, h2, h3, h4⟩ := h
  exact ⟨v, h2.ck k, own_ck h3 k, h4.ck k hB⟩
end
/-- A slice that reads as a list. -/
def RowAt (ls : List Int) (W : World) (s : Value) : Prop := ∃ A' c', s = .slice A' ls.length c' ∧ ls.length ≤ c' ∧ c' ≤ 9223372036854775807 ∧ Reads W W.heap.size 1 A' ls.length (litV ls)
theorem rowAt_zero {ls : List Int} {W : World} {A : Option Addr} {c : Nat} (h : ls = []) (hc : c ≤ 9223372036854775807) : RowAt ls W (.slice A 0 c) := by
  subst h
  exact ⟨A, c, rfl, Nat.zero_le _, hc, by simp [litV], fun h => absurd h (by simp)⟩
theorem rowAt_mk {ls : List Int} {W : World} {A : Option Addr} {n c : Nat} (hn : ls.length = n) (hc : n ≤ c) (hc2 : c ≤ 9223372036854775807) (h : Reads W W.heap.size 1 A n (litV ls)) : RowAt ls W (.slice A n c) := by
  subst hn
  exact ⟨A, c, rfl, hc, hc2, h⟩
theorem equal_quiet (A A' : Option Addr) (n c c' : Nat) (l : List Int) (B B' : Nat) (w : World) (h : Reads w B 1 A n (litV l)) (h' : Reads w B' 1 A' n (litV l)) (hn : n ≤ 1099511627776) (nn : Nat) :
    Calls Try.prog 21 #[.slice A n c, .slice A' n c'] (w.drewN nn) fun e w' => e = .returned (.bool true) ∧ ∃ d, w' = w.drewN d := by
  replace h := h.drewN nn
  replace h' := h'.drewN nn
  refine Calls.mono (R := fun e w' => e = .returned (.bool true) ∧ ∃ d, w' = (w.drewN nn).drewN d) ?_ (fun e w' h => ⟨h.1, by obtain ⟨d, rfl⟩ := h.2; exact ⟨nn + d, by rw [World.drewN_drewN]⟩⟩)
  generalize w.drewN nn = w at *
  go_enter Try.func21, Try.ntmps21
  go_wp2
  go_loopw [13] (fun i wr => ∃ k d : Nat, k ≤ n ∧ i = .int .i64 k ∧ wr = w.drewN d) (fun i _ => n - (intOf i).toNat)
  case atStart => exact ⟨0, 0, by omega, rfl, rfl⟩
  case round =>
    obtain ⟨k, d, hk, rfl, rfl⟩ := hrel
    by_cases hlt : k < n
    · obtain ⟨ad, x, rfl, _, hx, q1⟩ := reads_num h hlt
      obtain ⟨ad', x', rfl, _, hx', q2⟩ := reads_num h' hlt
      obtain rfl : x = x' := by rw [hx] at hx'; injection hx'
      have hlt2 : (k : Int) < (n : Int) := by omega
      have hk0 : 0 ≤ (k : Int) := by omega
      clear hx hx'
      go_wp2_with fail
      go_quiet (fail)
      go_wp2_with fail
      go_roundw
      case rel => exact ⟨k + 1, _, by omega, by go_num, rfl⟩
      case measure => simp [intOf]; omega
    · obtain rfl : k = n := by omega
      go_wp2_with fail
      go_ret
      exact ⟨rfl, d, rfl⟩
def updZ (T : Array Value) (i1 i2 j2 : Nat) (y : Nat × Int) : Act := { tmps := ((T.setIfInBounds i1 (.int .i64 y.1)).setIfInBounds i2 (.int .i64 y.2)).setIfInBounds j2 (.int .i64 y.2), defers := [] }
/-- What the third range keeps. -/
structure FIn (W6 : World) (p7 r d2 : Nat) (fp' : List Nat) (pre : List (Nat × Int)) (W : World) : Prop where
  bn : Blk W r 3 #[.int .i64 (pre.length : Int)]
  trail : Trail W W6.heap.size d2 fp' (frT (min (pre.length + 1) 8))
  far : ∀ i, i ∈ fp' → i ≠ p7 ∧ (i < r ∨ r + 1 + 1 + 1 ≤ i)
  b25 : Blk W p7 23 #[.pointer (some ⟨d2, 0, none⟩)]
  bt : Blk W (r + 1) 23 #[.pointer (some ⟨d2, 0, none⟩)]
  bf : Blk W (r + 1 + 1) 3 #[.int .i64 0]
  below : Below W6.heap.size W6 W
  few : pre.length ≤ 8
  ord : W6.heap.size ≤ p7 ∧ p7 < r
theorem FIn.ck {B : Nat} {W6 W W' : World} {p7 r d2 : Nat} {fp' : List Nat} {pre : List (Nat × Int)} (h : FIn W6 p7 r d2 fp' pre W) (k : CellsKept B W W') (hB : W6.heap.size ≤ B) : FIn W6 p7 r d2 fp' pre W' :=
  ⟨h.bn.ck k, h.trail.ck k, h.far, h.b25.ck k, h.bt.ck k, h.bf.ck k, below_ck h.below (Nat.le_refl _) k hB, h.few, h.ord⟩
theorem FIn.next {W6 W W5 W8 : World} {p7 r d2 : Nat} {fp' fp2 : List Nat} {pre : List (Nat × Int)} {y : Nat × Int} (h : FIn W6 p7 r d2 fp' pre W) (hO : Only [r] W W5) (hn : Blk W5 r 3 #[.int .i64 ((pre.length : Int) + 1)]) (hO8 : Only fp' W5 W8) (hf : ∀ i, i ∈ fp2 → i ∈ fp' ∨ W5.heap.size ≤ i)
    (ht : Trail W8 W6.heap.size d2 fp2 (frT (min (pre.length + 1 + 1) 8))) (hl : pre.length < 8) :
    Only (r :: fp') W W8 ∧ FIn W6 p7 r d2 fp2 (pre ++ [y]) W8 ∧ ∀ i, i ∈ r :: fp2 → i ∈ r :: fp' ∨ W.heap.size ≤ i := by
  obtain ⟨o1, o2⟩ := h.ord
  have hne : ∀ i, i = p7 ∨ i = r ∨ i = r + 1 ∨ i = r + 1 + 1 → i ∉ fp' := by
    intro i h1 hm
    have := h.far i hm
    omega
  have hf5 := h.bf.only hO (fun hm => by have := List.mem_singleton.1 hm; omega)
  have hsz : r + 1 + 1 + 1 ≤ W5.heap.size := by have := hf5.lt; omega
  refine ⟨(hO.more (fq := r :: fp') (fun i hi _ => by simp at hi; simp [hi])).then hO8 (fun i hi _ => List.mem_cons_of_mem _ hi),
    ⟨?_, ?_, fun i hi => ?_, (h.b25.only hO (fun hm => by have := List.mem_singleton.1 hm; omega)).only hO8 (hne _ (.inl rfl)), (h.bt.only hO (fun hm => by have := List.mem_singleton.1 hm; omega)).only hO8 (hne _ (by omega)), hf5.only hO8 (hne _ (by omega)), ?_, by simp; omega, h.ord⟩, fun i hi => ?_⟩
  · have := hn.only hO8 (hne _ (by omega))
    rw [show ((pre ++ [y]).length : Int) = (pre.length : Int) + 1 by simp]
    exact this
  · rw [show (pre ++ [y]).length = pre.length + 1 by simp]
    exact ht
  · rcases hf i hi with h1 | h1
    · exact h.far i h1
    · omega
  · have h1 := h.below.trans (hO.below h.below.size (fun i hi => by have := List.mem_singleton.1 hi; omega))
    exact h1.trans (hO8.below h1.size (fun i hi => (h.trail.ge i hi).1))
  · rcases List.mem_cons.1 hi with rfl | hi
    · exact .inl (by simp)
    · rcases hf i hi with h1 | h1
      · exact .inl (List.mem_cons_of_mem _ h1)
      · exact .inr (by have := hO.size; omega)
def updY (T : Array Value) (i1 i2 j1 j2 : Nat) (y : Nat × Int) : Act := { tmps := (((T.setIfInBounds i1 (.int .i64 y.1)).setIfInBounds i2 (.int .i64 y.2)).setIfInBounds j1 (.int .i64 y.1)).setIfInBounds j2 (.int .i64 y.2), defers := [] }
attribute [local go_sem] Oper.semAt_some
set_option maxRecDepth 100000 in
theorem yields_in (m : Nat) (hm1 : 3 ≤ m) (A : Option Addr) (n c B : Nat) (l : List Int) (w : World) (hrd : Reads w B 1 A n (l.map (Value.int .u8))) (hB : B ≤ w.heap.size) (hm : n ≤ 9223372036854775807) (hc : n ≤ c) (hl : ∀ x ∈ l, 0 ≤ x ∧ x ≤ 255)
    (fr st tl : Int) (hf : 0 ≤ fr ∧ fr ≤ 255) (hs : 0 ≤ st ∧ st ≤ 255) (ht : 0 ≤ tl ∧ tl ≤ 255) :
    CallsIn Fence.wide m Try.prog 6 #[.slice A n c, .int .u8 fr, .int .u8 st, .int .u8 tl] w fun e w' => e = .returned (.bool true) ∧ Below w.heap.size w w' := by
  have hput : ∀ W, Below w.heap.size w W → _ := fun W hW => put_ok A n c B l W (hrd.below (hW.mono hB)) (Nat.le_trans hB hW.size) hm hc hl
  obtain ⟨D, hD⟩ : ∃ D, D = putT (l.take 40) := ⟨_, rfl⟩
  obtain ⟨h8, h41⟩ := putT_is l
  simp only [← hD] at hput
  rw [← hD] at h8 h41
  clear hD
  replace hput := Lib.hid hput
  replace h8 := Lib.hid h8
  obtain ⟨i0, hi, hz0, hz1, hz2⟩ := info_parts info27
  obtain ⟨f0, f1⟩ := hf
  obtain ⟨s0, s1⟩ := hs
  obtain ⟨t0, t1⟩ := ht
  refine callsIn_of_wp_marks Try.func6 rfl trivial ?_ rfl
  simp only [Try.ntmps6, List.size_toArray, List.length_cons, List.length_nil, Nat.reduceAdd, Nat.reduceSub, Array.replicate_succ, Array.replicate_zero, List.push_toArray, List.append_toArray, List.nil_append, List.cons_append]
  refine wpIn_wide.2 ?_
  go_wp2_with (first
    | (go_at_call 19; refine (hput.out _ (((Below.refl _ _).alloc (Nat.le_refl _) _).alloc (by simp) _)).mono ?_; rintro e Wp ⟨d, A1, c1, A2, c2, rfl, hS⟩)
    | (go_at_call 28; refine (lits28 _ _ _).mono ?_; rintro e w' ⟨rfl, rfl⟩))
  rename_i hcont
  replace hcont := Lib.hid hcont
  obtain ⟨a, ha, ha9⟩ : ∃ a : Nat, fr % 10 = (a : Int) ∧ a ≤ 9 := ⟨(fr % 10).toNat, by omega, by omega⟩
  obtain ⟨s, hs, hs9⟩ : ∃ s : Nat, st % 10 = (s : Int) ∧ s ≤ 9 := ⟨(st % 10).toNat, by omega, by omega⟩
  rw [ha]
  have hlen2 : (lits D).length = D.its.length := lits_len D
  have hfew : D.its.length ≤ 8 := by have := hS.ok.few; have := h8.out; omega
  have hb0 : Blk Wp w.heap.size 5 #[.int .u8 st] := by
    have := ((Blk.new w 5 #[.int .u8 st]).alloc (.cells #[.bool false] 4)).below (hS.bel) (by simp; omega)
    exact this
  have hb1 : Blk Wp (w.heap.size + 1) 4 #[.bool false] := by
    have := Blk.new (w.alloc (.cells #[.int .u8 st] 5)) 4 #[.bool false]
    rw [World.size_alloc] at this
    exact this.below (hS.bel) (by simp)
  have hw0 : w.heap.size + 2 ≤ Wp.heap.size := by have := hS.bel.size; simpa using this
  obtain ⟨W1, hW1⟩ : ∃ W1, W1 = ((((((Wp.alloc (.cells #[.pointer (some ⟨d, 0, none⟩)] 23)).alloc (.cells #[.slice A1 D.its.length c1] 39)).alloc (.cells #[.int .i64 (a : Int)] 3)).alloc (.cells #[.slice none 0 0] 39)).alloc (.cells #[.pointer (some ⟨d, 0, none⟩)] 23)).alloc (.cells #[.int .i64 (a : Int)] 3)) := ⟨_, rfl⟩
  have hsz : W1.heap.size = Wp.heap.size + 6 := by rw [hW1]; simp
  have hB1 : Below Wp.heap.size Wp W1 := by
    rw [hW1]
    exact ((((((Below.refl _ _).alloc (Nat.le_refl _) _).alloc (by simp) _).alloc (by simp; omega) _).alloc (by simp; omega) _).alloc (by simp; omega) _).alloc (by simp; omega) _
  have k9 : Blk W1 Wp.heap.size 23 #[.pointer (some ⟨d, 0, none⟩)] := by
    rw [hW1]
    exact (((((Blk.new Wp 23 _).alloc _).alloc _).alloc _).alloc _).alloc _
  have k10 : Blk W1 (Wp.heap.size + 1) 39 #[.slice A1 D.its.length c1] := by
    have := Blk.new (Wp.alloc (.cells #[.pointer (some ⟨d, 0, none⟩)] 23)) 39 #[.slice A1 D.its.length c1]
    rw [World.size_alloc] at this
    rw [hW1]
    exact (((this.alloc _).alloc _).alloc _).alloc _
  have k13 : Blk W1 (Wp.heap.size + 1 + 1) 3 #[.int .i64 (a : Int)] := by
    have := Blk.new ((Wp.alloc (.cells #[.pointer (some ⟨d, 0, none⟩)] 23)).alloc (.cells #[.slice A1 D.its.length c1] 39)) 3 #[.int .i64 (a : Int)]
    rw [World.size_alloc, World.size_alloc] at this
    rw [hW1]
    exact ((this.alloc _).alloc _).alloc _
  have k14 : Blk W1 (Wp.heap.size + 1 + 1 + 1) 39 #[.slice none 0 0] := by
    have := Blk.new (((Wp.alloc (.cells #[.pointer (some ⟨d, 0, none⟩)] 23)).alloc (.cells #[.slice A1 D.its.length c1] 39)).alloc (.cells #[.int .i64 (a : Int)] 3)) 39 #[.slice none 0 0]
    rw [World.size_alloc, World.size_alloc, World.size_alloc] at this
    rw [hW1]
    exact (this.alloc _).alloc _
  have kt : Blk W1 (Wp.heap.size + 1 + 1 + 1 + 1) 23 #[.pointer (some ⟨d, 0, none⟩)] := by
    have := Blk.new ((((Wp.alloc (.cells #[.pointer (some ⟨d, 0, none⟩)] 23)).alloc (.cells #[.slice A1 D.its.length c1] 39)).alloc (.cells #[.int .i64 (a : Int)] 3)).alloc (.cells #[.slice none 0 0] 39)) 23 #[.pointer (some ⟨d, 0, none⟩)]
    rw [World.size_alloc, World.size_alloc, World.size_alloc, World.size_alloc] at this
    rw [hW1]
    exact this.alloc _
  have kf : Blk W1 (Wp.heap.size + 1 + 1 + 1 + 1 + 1) 3 #[.int .i64 (a : Int)] := by
    have := Blk.new (((((Wp.alloc (.cells #[.pointer (some ⟨d, 0, none⟩)] 23)).alloc (.cells #[.slice A1 D.its.length c1] 39)).alloc (.cells #[.int .i64 (a : Int)] 3)).alloc (.cells #[.slice none 0 0] 39)).alloc (.cells #[.pointer (some ⟨d, 0, none⟩)] 23)) 3 #[.int .i64 (a : Int)]
    rw [World.size_alloc, World.size_alloc, World.size_alloc, World.size_alloc, World.size_alloc] at this
    rw [hW1]
    exact this
  rw [← hW1]
  clear hW1
  obtain ⟨Ao, co, hO⟩ : ∃ Ao co, Ordr Wp (w.heap.size + 2) d Ao co (lits D) := by
    obtain ⟨fp, q1, q2, _⟩ := hS
    simp only [World.size_alloc] at q1
    exact q1.ordr
  have hbw : Below w.heap.size w ((w.alloc (.cells #[.int .u8 st] 5)).alloc (.cells #[.bool false] 4)) := ((Below.refl _ _).alloc (Nat.le_refl _) _).alloc (by simp) _
  have hsw0 : ((w.alloc (.cells #[.int .u8 st] 5)).alloc (.cells #[.bool false] 4)).heap.size = w.heap.size + 2 := by simp
  generalize (w.alloc (.cells #[.int .u8 st] 5)).alloc (.cells #[.bool false] 4) = w0 at hS hbw hsw0
  have hI0 : YIn Wp d A1 c1 (lits D) a s [Wp.heap.size + 1 + 1 + 1] [] W1 :=
    ⟨.slice none 0 0, rfl, k14, World.ownsRow_nil _ _ _ _, ⟨hB1, k9, by rw [hlen2]; exact k10, k13⟩, kf, kt, rfl, Nat.zero_le _, Nat.zero_le _⟩
  refine (wpIn_wide (n := m)).1 ?_
  refine wpIn_range_join rfl (enters_of Try.func40 (by kernel_rfl) rfl) (seq40 (w.heap.size + 2) d (Wp.heap.size + 1 + 1 + 1 + 1 + 1) (Wp.heap.size + 1 + 1 + 1 + 1) a (by omega)) (fun _ => rfl)
    (YIn Wp d A1 c1 (lits D) a s) (fun _ W => Got Wp d A1 c1 (lits D) a s W)
    (fun fp => ownFrom_of fun x W W' kk hI => hI.ck kk (by omega)) (ownFrom_of fun _ _ _ kk h => h.ck kk (by omega)) (fun fp pre W hI => by obtain ⟨v, h1, h2, h3, h4, h5, h6, _⟩ := hI; exact ⟨h5, h6, Ao, co, _, hO.new h4.below⟩) [Wp.heap.size + 1 + 1 + 1] (by simp; omega) hI0
    (fun T pre y a' W => a' = updY T 45 46 15 16 y ∧ ((lits D).drop a)[pre.length]? = some y.2 ∧ y.1 = a + pre.length) (fun _ _ _ => ownFrom_of fun _ _ _ _ h => h) ?assign 0 (fun _ _ h => h) ?body (Got Wp d A1 c1 (lits D) a s) ?done ?hE (fun _ _ h => h) ?fin
  case assign =>
    intro l2 m2 fp pre y W2 K hI hX hK
    have hx : ((lits D).drop a)[pre.length]? = some y.2 ∧ y.1 = a + pre.length := by
      obtain ⟨h1, A', c', ls', h2, h3⟩ := hX
      obtain ⟨v, q1, q2, q3, q4, q5, q6, _⟩ := hI
      rw [h2.uniq (hO.new q4.below), h1] at h3
      rw [Int.toNat_natCast] at h1 h3
      exact ⟨by rw [List.getElem?_drop]; exact h3, h1⟩
    have hfin := hK _ W2 (Only.refl [] _) hI ⟨rfl, hx⟩
    clear hK hX hx
    simp only [updY, List.setIfInBounds_toArray, List.set_cons_succ, List.set_cons_zero] at hfin
    replace hfin := Lib.hid hfin
    simp only [enc2]
    gi_wp2
    exact hfin.out
  case body =>
    rintro l2 m2 fp pre ⟨y1, y2⟩ a' W2 ⟨v, rfl, hb, hrow, hBx, hI4, hI5, hpre, hlen, hsl⟩ ⟨rfl, hx, hy1⟩
    dsimp only at hx hy1
    simp only [updY, List.setIfInBounds_toArray, List.set_cons_succ, List.set_cons_zero]
    have hps : pre.length < ((lits D).drop a).length := (List.getElem?_eq_some_iff.1 hx).1
    have b6 := (hb0.below hBx.below hb0.lt).cell 0
    have b13 := hBx.b13.cell 0
    have b14 := hb.cell 0
    simp only [List.getElem?_toArray, List.getElem?_cons_zero] at b6 b13 b14
    obtain ⟨Av, cv, rfl⟩ := own_form hrow
    have hp9 : pre.length ≤ 9 := by omega
    have hp10 : (pre.length : Int) ≤ 9 := by omega
    by_cases he : pre.length = s
    · have hG : Got Wp d A1 c1 (lits D) a s W2 := by
        refine ⟨_, hb, own_cast hrow (by rw [List.length_take]; omega) (by rw [hpre, he]), hBx⟩
      have heb : ((pre.length : Int) == (s : Int)) = true := by simp; omega
      clear hx hpre hlen hrow he hI4 hI5 hBx hb
      replace hG := Lib.hid hG
      replace hb0 := Lib.hid hb0
      generalize pre.length = q at *
      rw [← hs] at heb
      gi_wp2
      exact ⟨⟨[], by simp, Only.refl _ _⟩, rfl, hG.out⟩
    · have heb : ((pre.length : Int) == (s : Int)) = false := by simp; omega
      subst hy1
      have hbp := hb
      replace hx := Lib.hid hx
      replace hpre := Lib.hid hpre
      replace hlen := Lib.hid hlen
      replace hrow := Lib.hid hrow
      replace hps := Lib.hid hps
      replace hsl := Lib.hid hsl
      replace he := Lib.hid he
      rw [← hs] at heb
      gi_upto_region 12 with (fail)
      apply wpIn_region_lit
      refine list_lift ?_ _ _ _ (by intro o ho; simp at ho; rcases ho with rfl | rfl | rfl | rfl | rfl <;> intro c hc <;> cases hc) ?_
      · intro a w hh
        exact hh
      have hwl : Wp.heap.size + 1 + 1 + 1 + 1 + 1 < W2.heap.size := hI4.lt
      have hwl6 : Wp.heap.size + 6 ≤ W2.heap.size := by omega
      have hnv : some (Wp.heap.size + 1 + 1 + 1) ≠ (Value.slice Av pre.length cv).ownBlock := fun e => by have := (hrow.out.lt _ e.symm).1; omega
      go_wp2_with (at_builtin; refine wpList_append_any _ rfl _ _ 39 rfl (Wp.heap.size + 6) 27 i0 _ 1 8 Try.underlying39 hi hz0 hz1 hz2 rfl (by omega) (.slice Av pre.length cv) pre.length (litV (pre.map (·.2))) rfl (row_new hrow.out ((Below.refl _ _).alloc (Nat.le_refl _) _)) (W2.heap.size + 1) (some ⟨W2.heap.size, 0, none⟩) 1 1 [.int .i64 y2] rfl (lit_reads W2 27 _) (by simp [Value.oneCell']) (by simp only [maxLen]; omega) (by omega) (by simp; omega) ?_; intro v' w3 hown hgrow hat; obtain ⟨A5, c5, rfl⟩ := own_form hown; have hb3 := (hb.alloc (.cells #[.int .i64 y2] 27)).grown hgrow hnv; have b3 := hb3.cell 0; have fz3 := hb3.frozen 0; simp only [List.getElem?_toArray, List.getElem?_cons_zero] at b3)
      have hOn : Only ((Wp.heap.size + 1 + 1 + 1) :: (Value.slice Av pre.length cv).ownBlock.toList) W2 (w3.setCell ⟨Wp.heap.size + 1 + 1 + 1, 0, none⟩ (.slice A5 (pre.length + 1) c5)) :=
        (((Only.refl _ W2).alloc _).grown hgrow (by intro k hk; exact .inl (by simp [hk]))).setCell (.inl (by simp)) _
      have hfar : ∀ k, k ∈ (Wp.heap.size + 1 + 1 + 1) :: (Value.slice Av pre.length cv).ownBlock.toList → k = Wp.heap.size + 1 + 1 + 1 ∨ Wp.heap.size + 6 ≤ k := by
        intro k hk
        rcases List.mem_cons.1 hk with rfl | hk
        · exact .inl rfl
        · exact .inr (hrow.out.lt k (by simpa using hk)).1
      refine ⟨hOn, (Wp.heap.size + 1 + 1 + 1) :: (Value.slice A5 (pre.length + 1) c5).ownBlock.toList, ⟨.slice A5 (pre.length + 1) c5, rfl, hb3.set_ 0 _, ?_, hBx.only hOn (fun k hk => by have := hfar k hk; omega), hI4.only hOn (by intro hk; have := hfar _ hk; omega), hI5.only hOn (by intro hk; have := hfar _ hk; omega), ?_, ?_, ?_⟩, ?_⟩
      · have q := own_only hown (Only.setCell (Only.refl [Wp.heap.size + 1 + 1 + 1] w3) (p := ⟨Wp.heap.size + 1 + 1 + 1, 0, none⟩) (.inl (by simp)) (.slice A5 (pre.length + 1) c5)) (by intro k hk hm; simp at hm; have := (hown.lt k hk).1; omega)
        simpa [litV] using q
      · simp only [List.map_append, List.map_cons, List.map_nil, List.length_append, List.length_cons, List.length_nil]
        rw [take_snoc hx.out, hpre.out]
      · have := hps.out; simp only [List.length_append, List.length_cons, List.length_nil]; omega
      · have := he.out; have := hsl.out; simp only [List.length_append, List.length_cons, List.length_nil]; omega
      · intro k hk
        rcases List.mem_cons.1 hk with rfl | hk
        · exact .inl (by simp)
        · rcases hat with e | e
          · rw [e] at hk
            exact .inl (List.mem_cons_of_mem _ hk)
          · rw [e] at hk
            simp at hk
            exact .inr (by omega)
  case done =>
    rintro fp xs W2 ⟨A', c', ls', hE1, hE2⟩ ⟨v, rfl, hb, hrow, hBx, hI4, hI5, hpre, hlen, hs⟩
    rw [hE1.uniq (hO.new hBx.below)] at hE2
    rw [Int.toNat_natCast] at hE2
    have e1 : xs.length = ((lits D).drop a).length := by rw [List.length_drop] at hlen ⊢; omega
    have e2 : ((lits D).drop a).take s = xs.map (·.2) := by rw [hpre, e1, List.take_length, List.take_of_length_le (by omega)]
    exact ⟨v, hb, own_cast hrow (by rw [e2]; simp) (by rw [e2]), hBx⟩
  case hE =>
    rintro xs W l o o' h1 h2 h3 ⟨A', c', ls, h4, h5⟩
    exact ⟨A', c', ls, h4.ck (CellsKept.putObj (B := 0) W _ h2 h3 (Nat.zero_le _)), h5⟩
  case fin =>
    intro Dd W2 hDd hG hDm
    refine hcont.out _ _ ?_
    clear hcont
    dsimp only
    obtain ⟨v, hb, hrow, hBx⟩ := hG
    obtain ⟨Av, cv, rfl⟩ := own_form hrow
    have hS2 := hS.new hBx.below
    have b6 := (hb0.below hBx.below hb0.lt).cell 0
    have b10 := hBx.b10.cell 0
    have b9 := hBx.b9.cell 0
    have b13 := hBx.b13.cell 0
    have b14 := hb.cell 0
    simp only [List.getElem?_toArray, List.getElem?_cons_zero] at b6 b9 b10 b13 b14
    rw [hlen2] at b10
    have hcap := own_cap (hS2.row (r := ⟨27, .slice A1 D.its.length c1, lits D⟩) (by simp))
    have hall : ∀ mm, mm ≤ D.its.length → _ := fun mm hmm => hS2.suffix_ (r := ⟨27, .slice A1 D.its.length c1, lits D⟩) (m := mm) (by simp) hlen2 hmm
    simp only at hall
    have hlc : (D.its.length : Int) ≤ (c1 : Int) := by omega
    clear hI0 k9 k10 k13 k14 kt kf
    replace hall := Lib.hid hall
    replace hlen2 := Lib.hid hlen2
    go_upto_region 13 with (fail)
    go_cut [17] from 63 to 68 (fun s wx => wx = W2 ∧ RowAt ((lits D).drop a) W2 s)
    case first =>
      have hdl : ((lits D).drop a).length = D.its.length - a := by rw [List.length_drop, hlen2.out]
      by_cases haL : a ≤ D.its.length
      · have h1 : (a : Int) ≤ (D.its.length : Int) := by omega
        have h2 : ¬ (D.its.length : Int) < (a : Int) := by omega
        have h3 : (a : Int) ≤ (c1 : Int) := by omega
        by_cases hca : c1 = a
        · have hq := (hall.out a haL).1 hca
          subst hca
          go_wp2
          go_meet
          exact ⟨rfl, rowAt_zero (List.drop_eq_nil_of_le (by rw [hlen2.out]; omega)) (by omega)⟩
        · have hq := (hall.out a haL).2 hca
          go_wp2
          go_meet
          exact ⟨rfl, rowAt_mk hdl (by omega) (by omega) hq⟩
      · have h1 : ¬ (a : Int) ≤ (D.its.length : Int) := by omega
        have h2 : (D.its.length : Int) < (a : Int) := by omega
        have h4 : (D.its.length : Int) ≤ (a : Int) := by omega
        have hd0 : (lits D).drop a = [] := List.drop_eq_nil_of_le (by rw [hlen2.out]; omega)
        by_cases hca : c1 = D.its.length
        · subst hca
          go_wp2
          go_meet
          exact ⟨rfl, rowAt_zero hd0 (by omega)⟩
        · go_wp2
          go_meet
          exact ⟨rfl, rowAt_zero hd0 (by omega)⟩
    case rest =>
      obtain ⟨rfl, A7, c7, rfl, hc7, hc8, hr7⟩ := hcut
      have hrl : ((lits D).drop a).length ≤ 8 := by rw [List.length_drop, hlen2.out]; omega
      have hrc : (((lits D).drop a).length : Int) ≤ (c7 : Int) := by omega
      have hrow2 := Reads.of_own hrow
      have hs9 : (s : Int) ≤ 9 := by omega
      go_wp2_with fail
      go_upto_region 14 with (fail)
      go_cut [79] from 69 to 78 (fun s wx => s = .bool false ∧ ∃ nn, wx = wc.drewN nn)
      case first =>
        by_cases hrs : ((lits D).drop a).length ≤ s
        · rw [List.take_of_length_le hrs] at hrow2
          have h1 : (((lits D).drop a).length : Int) ≤ (s : Int) := by omega
          have h2 : ¬ (s : Int) < (((lits D).drop a).length : Int) := by omega
          rw [List.take_of_length_le hrs] at b14
          generalize hR : (lits D).drop a = R at *
          have hE := fun nn => equal_quiet Av A7 R.length cv c7 _ _ _ wc hrow2 hr7 (by omega) nn
          generalize R.length = q at *
          replace hE := Lib.hid hE
          go_quiet ((go_at_call 21; with_reducible exact hE.out _))
          go_wp2
          go_meet
          exact ⟨rfl, _, rfl⟩
        · have h1 : ¬ (((lits D).drop a).length : Int) ≤ (s : Int) := by omega
          have h2 : (s : Int) < (((lits D).drop a).length : Int) := by omega
          have h3 : (s : Int) ≤ (((lits D).drop a).length : Int) := by omega
          have h4 : (s : Int) ≤ (c7 : Int) := by omega
          have ht : (((lits D).drop a).take s).length = s := by rw [List.length_take]; omega
          have hr8 := hr7.take s (by omega)
          rw [Nat.mul_one, litV, ← List.map_take] at hr8
          rw [ht] at hrow2 b14
          have hE := fun nn => equal_quiet Av A7 s cv c7 _ _ _ wc hrow2 hr8 (by omega) nn
          generalize ((lits D).drop a).length = q at *
          replace hE := Lib.hid hE
          go_quiet ((go_at_call 21; with_reducible exact hE.out _))
          go_wp2
          go_meet
          exact ⟨rfl, _, rfl⟩
      case rest =>
        obtain ⟨rfl, nn, rfl⟩ := hcut
        have hS3 : Run _ _ d D (wc.drewN nn) := hS2.new (below_drewN' _ _)
        have hbl : Below Wp.heap.size Wp (wc.drewN nn) := below_drewN hBx.below nn
        have c6 : Blk (wc.drewN nn) w.heap.size 5 #[.int .u8 st] := (hb0.below hBx.below hb0.lt).drewN nn
        have c8 : Blk (wc.drewN nn) (w.heap.size + 1) 4 #[.bool false] := (hb1.below hBx.below hb1.lt).drewN nn
        have c9 := hBx.b9.drewN nn
        have c10 := hBx.b10.drewN nn
        rw [hlen2.out] at c10
        have hDm2 : (wc.drewN nn).heap[Dd]? = some (.deferred (some [])) := hDm
        have hDd2 : Wp.heap.size < Dd := by omega
        generalize wc.drewN nn = Wq at *
        clear hall hrow2 hrow hr7 hb hBx hS2 hDm b6 b9 b10 b13 b14 hrc hrl hc7 hc8 hO
        have hst1 := hS3.ok.st2
        have hok := hS3.ok
        have hwq : Wp.heap.size + 1 < Wq.heap.size := c10.lt
        have hwq0 : Wp.heap.size < Wq.heap.size := by omega
        have hwq1 : w.heap.size < Wq.heap.size := by omega
        have hwq2 : w.heap.size + 1 < Wq.heap.size := by omega
        have b6 := c6.cell 0
        have b9 := c9.cell 0
        have b10 := c10.cell 0
        simp only [List.getElem?_toArray, List.getElem?_cons_zero] at b6 b9 b10
        go_wp2_with (first
          | (go_at_call 20; refine (run_now hS3 rfl).mono ?_; rintro e W4 ⟨rfl, rfl⟩)
          | (go_at_call 29; refine (down29 _ _).mono ?_; rintro e w' ⟨rfl, rfl⟩))
        obtain ⟨k, hk, hkl⟩ : ∃ k : Nat, tl % (D.st.length : Int) = k ∧ k < D.st.length := by
          have h0 := Int.emod_nonneg tl (b := (D.st.length : Int)) (by omega)
          have h1 := Int.emod_lt_of_pos tl (b := (D.st.length : Int)) (by omega)
          exact ⟨(tl % (D.st.length : Int)).toNat, by omega, by omega⟩
        rw [hk]
        obtain ⟨mm, hml, hmi, hms, hmn, hmx⟩ := bck_its hok k hkl
        have hbk : bckE D k = 0 ∧ bckD D k = bck D k := ⟨if_pos (by omega), by unfold bckD; rw [if_pos (by omega), Int.toNat_natCast]⟩
        clear hk hS3
        rename_i hcont
        replace hcont := Lib.hid hcont
        obtain ⟨W3, hW3⟩ : ∃ W3, W3 = ((Wq.alloc (.cells #[.int .i64 (k : Int)] 3)).alloc (.cells #[.slice none 0 0] 39)).alloc (.cells #[.pointer (some ⟨d, 0, none⟩)] 23) := ⟨_, rfl⟩
        have hB3 : Below Wq.heap.size Wq W3 := by
          rw [hW3]
          exact (((Below.refl _ _).alloc (Nat.le_refl _) _).alloc (by simp) _).alloc (by simp; omega) _
        have hs3 : W3.heap.size = Wq.heap.size + 3 := by rw [hW3]; simp
        have d18 : Blk W3 Wq.heap.size 3 #[.int .i64 (k : Int)] := by
          rw [hW3]; exact ((Blk.new Wq 3 _).alloc _).alloc _
        have d19 : Blk W3 (Wq.heap.size + 1) 39 #[.slice none 0 0] := by
          have := Blk.new (Wq.alloc (.cells #[.int .i64 (k : Int)] 3)) 39 #[.slice none 0 0]
          rw [World.size_alloc] at this
          rw [hW3]; exact this.alloc _
        have dbt : Blk W3 (Wq.heap.size + 1 + 1) 23 #[.pointer (some ⟨d, 0, none⟩)] := by
          have := Blk.new ((Wq.alloc (.cells #[.int .i64 (k : Int)] 3)).alloc (.cells #[.slice none 0 0] 39)) 23 #[.pointer (some ⟨d, 0, none⟩)]
          rw [World.size_alloc, World.size_alloc] at this
          rw [hW3]; exact this
        rw [← hW3]
        clear hW3
        have hDm3 : W3.heap[Dd]? = some (.deferred (some [])) := (hB3.block Dd (Array.getElem?_eq_some_iff.1 hDm2).1).trans hDm2
        have hDq : Dd < Wq.heap.size := (Array.getElem?_eq_some_iff.1 hDm2).1
        have hbl3 : Below Wp.heap.size Wp W3 := hbl.trans (hB3.mono hbl.size)
        obtain ⟨fpT, g1, g2, g3⟩ := hS
        have r1 := g3 ⟨27, .slice A1 D.its.length c1, lits D⟩ (by simp)
        have r2 := g3 ⟨3, .slice A2 D.its.length c2, lvls D⟩ (by simp)
        simp only [lits_len, lvls_len] at r1 r2
        have hI1 : DIn w0 w.heap.size Wp.heap.size Wq.heap.size d A1 c1 A2 c2 D st k s mm (.slice none 0 0) fpT D [] W3 :=
          ⟨d19, World.ownsRow_nil _ _ _ _, fun i hi => by simp [Value.ownBlock] at hi, g1.new hbl3, fun i hi => .inl (g1.ge i hi).2, below_and g2 hbl3,
            ⟨row_new r1.1 hbl3, fun i hi => ⟨r1.2 i hi, (r1.1.lt i hi).2⟩⟩, ⟨row_new r2.1 hbl3, fun i hi => ⟨r2.2 i hi, (r2.1.lt i hi).2⟩⟩, d18, dbt, c9.below hB3 c9.lt, c10.below hB3 c10.lt, c6.below hB3 c6.lt, c8.below hB3 c8.lt, ⟨by omega, g2.size, by omega⟩, Came.zero⟩
        clear g1 g2 g3 r1 r2 d18 d19 dbt c9 c10 c6 c8 b6 b9 b10
        refine (wpIn_wide (n := m)).1 ?_
        refine wpIn_range_join rfl (enters_of Try.func41 (by kernel_rfl) rfl) (seq41 w0.heap.size d (Wq.heap.size + 1 + 1) D.its.length) (fun _ => rfl)
          (fun fp pre W => W.heap[Dd]? = some (.deferred (some [])) ∧ ∃ v fpT D', fp = fpD Wq.heap.size v fpT ∧ DIn w0 w.heap.size Wp.heap.size Wq.heap.size d A1 c1 A2 c2 D st k s mm v fpT D' pre W) (fun _ _ => False)
          (fun fp => ownFrom_of fun x W W' kk ⟨h0, v, f, D', h1, h2⟩ => ⟨kk.same _ _ h0 (.inr (by omega)), v, f, D', h1, h2.ck kk (by omega)⟩) (ownFrom_of fun _ _ _ kk h => h)
          (fun fp pre W hI => ?rd) (fpD Wq.heap.size (.slice none 0 0) fpT) ?fps ⟨hDm3, _, _, _, rfl, hI1⟩
          (fun T pre y a' W => a' = updY T 88 89 20 21 y ∧ ∃ A c ls, Ordr W w0.heap.size d A c ls ∧ y.1 + 1 = min (lastI D.its.length pre) ls.length ∧ ls[y.1]? = some y.2) (fun _ _ _ => ?own2) ?assign2 2 (fun _ _ h => h) ?body2
          (fun W => W.heap[Dd]? = some (.deferred (some [])) ∧ ∃ v fpT D', W.ownsRow (Wq.heap.size + 1 + 1 + 1) 27 1 v (wnt (lits D) mm s D.its.length).length (litV (wnt (lits D) mm s D.its.length)) ∧ ∃ pre, DIn w0 w.heap.size Wp.heap.size Wq.heap.size d A1 c1 A2 c2 D st k s mm v fpT D' pre W) ?done2 ?hE2 (fun _ _ h => h.elim) ?fin2
        case rd =>
          obtain ⟨_, v, f, D', rfl, hI⟩ := hI
          obtain ⟨Ao, co, hO⟩ := hI.trail.ordr
          refine ⟨hI.bt, Ao, co, _, hO, fun hp => ?_⟩
          subst hp
          rw [lits_len]
          by_cases hb : s = 0 ∨ ([] : List (Nat × Int)).length < s
          · rw [(hI.came.before hb).1]
          · exact absurd (by simp; omega) hb
        case fps =>
          intro i hi
          rcases List.mem_cons.1 hi with rfl | hi
          · omega
          · simp [Value.ownBlock] at hi
            exact (hI1.trail.ge i hi).2
        case own2 =>
          exact ownFrom_of fun x W W' kk ⟨h1, A', c', ls', h2, h3⟩ => ⟨h1, A', c', ls', h2.ck kk, h3⟩
        case assign2 =>
          intro l2 m2 fp pre y W2 K hI hX hK
          have hfin := hK _ W2 (Only.refl [] _) hI ⟨rfl, hX⟩
          clear hK hX hI
          simp only [updY, List.setIfInBounds_toArray, List.set_cons_succ, List.set_cons_zero] at hfin
          replace hfin := Lib.hid hfin
          simp only [enc2]
          gi_wp2
          exact hfin.out
        case body2 =>
          rintro l2 m2 fp pre ⟨y1, y2⟩ a' W2 ⟨hDe, v, fpT, D', rfl, hI⟩ ⟨rfl, Ao, co, ls, hOr, hy, hx⟩
          have hDn := hI.notin hDe
          have hDl := (Array.getElem?_eq_some_iff.1 hDe).1
          obtain ⟨Ao2, co2, hO2⟩ := hI.trail.ordr
          rw [hOr.uniq hO2] at hy hx
          dsimp only at hy hx
          simp only [updY, List.setIfInBounds_toArray, List.set_cons_succ, List.set_cons_zero]
          have hst := hI.came.step hmi hml (y := (y1, y2)) hy hx
          have hyl : y1 < D.its.length := hst.2
          have hpl := hI.came.len
          have b10 := hI.b10.cell 0
          have b19 := hI.down.cell 0
          have b6 := hI.b6.cell 0
          have b18 := hI.b18.cell 0
          have b9 := hI.b9.cell 0
          simp only [List.getElem?_toArray, List.getElem?_cons_zero] at b6 b9 b10 b18 b19
          obtain ⟨Av2, cv2, rfl⟩ := own_form hI.row
          have e1 : ¬ ((y1 : Int) < 0) := by omega
          have e2 : ¬ ((D.its.length : Int) ≤ (y1 : Int)) := by omega
          have e2' : (y1 : Int) < (D.its.length : Int) := by omega
          have e3 : ¬ (10 < (pre.length : Int)) := by omega
          have e4 : (pre.length : Int) ≤ 8 := by omega
          clear hy hx hOr hO2
          replace hst := Lib.hid hst
          gi_upto_region 23 with (fail)
          rename_i hnext
          replace hnext := Lib.hid hnext
          apply wpIn_region_lit
          refine list_lift ?_ _ _ _ (by intro o ho; simp at ho; rcases ho with rfl | rfl | rfl | rfl | rfl <;> intro c hc <;> cases hc) ?_
          · intro a w hh
            exact hh
          have hwl6 : Wq.heap.size + 1 + 1 + 1 ≤ W2.heap.size := by have := hI.bt.lt; omega
          have hrow2 := hI.row
          have hd2 := hI.down
          have hnv : some (Wq.heap.size + 1) ≠ (Value.slice Av2 pre.length cv2).ownBlock := fun e => by have := (hrow2.lt _ e.symm).1; omega
          go_wp2_with (at_builtin; refine wpList_append_any _ rfl _ _ 39 rfl (Wq.heap.size + 1 + 1 + 1) 27 i0 _ 1 8 Try.underlying39 hi hz0 hz1 hz2 rfl (by omega) (.slice Av2 pre.length cv2) pre.length (litV (pre.map (·.2))) rfl (row_new hrow2 ((Below.refl _ _).alloc (Nat.le_refl _) _)) (W2.heap.size + 1) (some ⟨W2.heap.size, 0, none⟩) 1 1 [.int .i64 y2] rfl (lit_reads W2 27 _) (by simp [Value.oneCell']) (by simp only [maxLen]; omega) (by omega) (by simp; omega) ?_; intro v' w3 hown hgrow hat; obtain ⟨A5, c5, rfl⟩ := own_form hown; have hb3 := (hd2.alloc (.cells #[.int .i64 y2] 27)).grown hgrow hnv; have b3 := hb3.cell 0; have fz3 := hb3.frozen 0; simp only [List.getElem?_toArray, List.getElem?_cons_zero] at b3)
          refine hnext.out _ _ ?_
          clear hnext
          have hOn : Only ((Wq.heap.size + 1) :: (Value.slice Av2 pre.length cv2).ownBlock.toList) W2 (w3.setCell ⟨Wq.heap.size + 1, 0, none⟩ (.slice A5 (pre.length + 1) c5)) :=
            (((Only.refl _ W2).alloc _).grown hgrow (by intro k hk; exact .inl (by simp [hk]))).setCell (.inl (by simp)) _
          have hd5 := hb3.set_ 0 (.slice A5 (pre.length + 1) c5)
          have hr5 : (w3.setCell ⟨Wq.heap.size + 1, 0, none⟩ (.slice A5 (pre.length + 1) c5)).ownsRow (Wq.heap.size + 1 + 1 + 1) 27 1 (.slice A5 (pre.length + 1) c5) (pre.length + 1) (litV (pre.map (·.2)) ++ [.int .i64 y2]) :=
            own_only hown (Only.setCell (Only.refl [Wq.heap.size + 1] w3) (p := ⟨Wq.heap.size + 1, 0, none⟩) (.inl (by simp)) (.slice A5 (pre.length + 1) c5)) (by intro k hk hm; simp at hm; have := (hown.lt k hk).1; omega)
          have hat5 : (Value.slice A5 (pre.length + 1) c5).ownBlock = (Value.slice Av2 pre.length cv2).ownBlock ∨ ∃ i, (Value.slice A5 (pre.length + 1) c5).ownBlock = some i ∧ W2.heap.size ≤ i := by
            rcases hat with e | e
            · exact .inl e
            · exact .inr ⟨_, e, by simp⟩
          clear b3 fz3 hb3 hown hgrow hat b10 b19 b6 b18 b9
          generalize w3.setCell ⟨Wq.heap.size + 1, 0, none⟩ (.slice A5 (pre.length + 1) c5) = W5 at *
          obtain ⟨j1, j2, j3, j4, j5, j6, j7, j8, j9, j10, j11, j12, j13⟩ := hI.grown (y := (y1, y2)) hOn hd5 hr5 hat5
          have b19 := j1.cell 0
          have b6 := j12.cell 0
          have b18 := j8.cell 0
          have b9 := j10.cell 0
          simp only [List.getElem?_toArray, List.getElem?_cons_zero] at b6 b9 b18 b19
          by_cases he : pre.length + 1 = s
          · have heb : ((pre.length : Int) + 1 == (s : Int)) = true := by simp; omega
            have hD : D' = D := (hI.came.before (.inr (by omega))).1
            have hst2 := hst.out.1
            rw [if_pos he] at hst2
            subst hD
            have hfin := fun (W6 : World) (fp' : List Nat) (h1 : Trail W6 w0.heap.size d fp' (bck D' k)) (h2 : ∀ i, i ∈ fp' → i ∈ fpT ∨ W5.heap.size ≤ i) (h3 : Only fpT W5 W6) => hI.next (y := (y1, y2)) hOn hd5 hr5 hat5 h3 h2 h1 hst2
            clear j1 j2 j3 j5 j6 j7 j8 j9 j10 j11 j12 j13 hst hI hOn hd5 hr5 hat5 hd2 hrow2
            replace hfin := Lib.hid hfin
            replace j4 := Lib.hid j4
            replace hbk := Lib.hid hbk
            gi_wp2_with ((first | refine ⟨trivial, no_depth, ?_⟩ | refine ⟨trivial, ?_⟩ | skip); gi_at_call 15; refine ((callsIn_wide.2 (back_n (D' := bck D' k) j4.out k (e := 0) hbk.out.1 hbk.out.2)).inRound l2).mono ?_; rintro e W6 ⟨rfl, fp', t1, t2, t3⟩)
            obtain ⟨q1, q2, q3⟩ := hfin.out W6 fp' t1 t2 t3
            exact ⟨q1, _, ⟨(q1.block Dd hDl hDn).trans hDe, _, _, _, rfl, q2⟩, q3⟩
          · have heb : ((pre.length : Int) + 1 == (s : Int)) = false := by simp; omega
            have hst2 := hst.out.1
            rw [if_neg he] at hst2
            obtain ⟨q1, q2, q3⟩ := hI.next (y := (y1, y2)) hOn hd5 hr5 hat5 (Only.refl fpT W5) (fun i hi => .inl hi) j4 hst2
            clear j1 j2 j3 j4 j5 j6 j7 j8 j9 j10 j11 j12 j13 hst hI hOn hd5 hr5 hat5 hd2 hrow2
            replace q1 := Lib.hid q1
            replace q2 := Lib.hid q2
            replace q3 := Lib.hid q3
            gi_wp2_with (refine ⟨trivial, ?_⟩)
            exact ⟨q1.out, _, ⟨(q1.out.block Dd hDl hDn).trans hDe, _, _, _, rfl, q2.out⟩, q3.out⟩
        case done2 =>
          rintro fp xs W2 ⟨A', c', ls', hE1, hE2⟩ ⟨hDe, v, f, D', rfl, hI⟩
          obtain ⟨Ao, co, hO⟩ := hI.trail.ordr
          rw [hE1.uniq hO] at hE2
          have he := hI.came.end_ hmi hml hE2
          refine ⟨hDe, v, f, D', own_cast hI.row (by rw [← he]; simp) (by rw [he]), _, hI⟩
        case hE2 =>
          rintro xs W l o o' h1 h2 h3 ⟨A', c', ls, h4, h5⟩
          exact ⟨A', c', ls, h4.ck (CellsKept.putObj (B := 0) W _ h2 h3 (Nat.zero_le _)), h5⟩
        case fin2 =>
          intro D2 W4 hD2 ⟨hDe, v, fpT, D', hrow, pre, hI⟩ hDm4
          refine hcont.out _ _ ?_
          clear hcont
          dsimp only
          have hmk : Marks w.heap.size W4 [{ target := .collected D2, args := #[] }, { target := .collected Dd, args := #[] }] :=
            ⟨⟨D2, rfl, by omega, hDm4, fun D3 hm => by simp at hm; subst hm; omega⟩, ⟨Dd, rfl, by omega, hDe, by simp⟩, trivial⟩
          clear hDe hDm4 hDm3 hDm2 hI1
          have hst0 := hI.came.len
          have b10 := hI.b10.cell 0
          have b19 := hI.down.cell 0
          have b6 := hI.b6.cell 0
          have b18 := hI.b18.cell 0
          simp only [List.getElem?_toArray, List.getElem?_cons_zero] at b6 b10 b18 b19
          clear hst0
          generalize hds : ([{ target := .collected D2, args := #[] }, { target := .collected Dd, args := #[] }] : List Deferred) = ds at hmk ⊢
          go_wp2_with fail
          go_loopw [22, 23] (fun vw iv wr => ∃ j : Nat, j ≤ D.its.length ∧ iv = .int .i64 ((D.its.length : Int) - 1 - j) ∧ wr.ownsRow W4.heap.size 27 1 vw (wnt (lits D) mm s j).length (litV (wnt (lits D) mm s j)) ∧ Below W4.heap.size W4 wr) (fun _ iv _ => (intOf iv + 1).toNat)
          case atStart => exact ⟨0, by omega, by simp, World.ownsRow_nil _ _ _ _, Below.refl _ _⟩
          case round =>
            obtain ⟨j, hj, rfl, hvw, hBr⟩ := hrel
            obtain ⟨Aw, cw, rfl⟩ := own_form hvw
            have hIr := hI.new hBr
            have b10 := hIr.b10.cell 0
            have b6 := hIr.b6.cell 0
            have b18 := hIr.b18.cell 0
            simp only [List.getElem?_toArray, List.getElem?_cons_zero] at b6 b10 b18
            by_cases hlt : j < D.its.length
            · obtain ⟨ii, hii⟩ : ∃ ii, ii + j + 1 = D.its.length := ⟨D.its.length - 1 - j, by omega⟩
              have hii2 : (D.its.length : Int) - 1 - (j : Int) = (ii : Int) := by omega
              rw [hii2]
              obtain ⟨x, hx⟩ : ∃ x, D.its[ii]? = some x := ⟨_, List.getElem?_eq_getElem (by omega)⟩
              have hx1 : (lits D)[ii]? = some x.lit := by rw [lits, List.getElem?_map, hx]; rfl
              have hx2 : (lvls D)[ii]? = some (x.lvl : Int) := by rw [lvls, List.getElem?_map, hx]; rfl
              have hiff := hmx ii x hx
              obtain ⟨ad, y1, hA, _, hy1, q0⟩ := reads_num (Reads.of_own hIr.all.1) (show ii < D.its.length by omega)
              obtain ⟨ad2, y2, hA2, _, hy2, q2⟩ := reads_num (Reads.of_own hIr.lvl.1) (show ii < D.its.length by omega)
              subst hA
              subst hA2
              rw [hx1] at hy1
              rw [hx2] at hy2
              simp only [Option.some.injEq] at hy1 hy2
              subst hy1
              subst hy2
              have hix : (lits D).length - 1 - j = ii := by rw [lits_len]; omega
              have hwl := wnt_len (lits D) mm s j
              have i1 : 0 ≤ (ii : Int) := by omega
              have i2 : (ii : Int) < (D.its.length : Int) := by omega
              have i3 : (D.its.length : Int) ≤ 8 := by omega
              clear hx hx2 hIr hI
              generalize x.lit = xl at *
              have hiff2 : ii < mm ↔ (x.lvl : Int) ≤ (k : Int) := by omega
              clear hiff
              generalize (x.lvl : Int) = lx at *
              replace hii2 := Lib.hid hii2
              go_upto_region 31 with (fail)
              by_cases hs0 : s = 0
              · have f1 : ((s : Int) == 0) = true := by simp; omega
                have hnx : wnt (lits D) mm s (j + 1) = wnt (lits D) mm s j ++ [xl] := wnt_take (lits D) mm s (j := j) (x := xl) (.inl hs0) (by rw [hix]; exact hx1)
                replace hnx := Lib.hid hnx
                go_quiet (fail)
                have hvd : (wr.drewN nq).ownsRow W4.heap.size 27 1 (.slice Aw (wnt (lits D) mm s j).length cw) (wnt (lits D) mm s j).length (litV (wnt (lits D) mm s j)) := row_new hvw (below_drewN' _ _)
                have hBd := below_drewN hBr nq
                have d10 : (wr.drewN nq).cell? ⟨Wp.heap.size + 1, 0, none⟩ = some (.slice (some ad) D.its.length c1) := b10
                have dq0 : (wr.drewN nq).cell? (ad.add ii) = some (.int .i64 xl) := q0
                clear hvw hBr b10 q0 q2 b6 b18 b19
                generalize wr.drewN nq = wd at *
                go_wp2_with (at_builtin; refine wpList_append_any _ rfl _ _ 39 rfl W4.heap.size 27 i0 _ 1 8 Try.underlying39 hi hz0 hz1 hz2 rfl (by omega) (.slice Aw (wnt (lits D) mm s j).length cw) (wnt (lits D) mm s j).length (litV (wnt (lits D) mm s j)) rfl (row_new hvd ((Below.refl _ _).alloc (Nat.le_refl _) _)) (wd.heap.size + 1) (some ⟨wd.heap.size, 0, none⟩) 1 1 [.int .i64 xl] rfl (lit_reads wd 27 _) (by simp [Value.oneCell']) (by simp only [maxLen]; omega) (by omega) (by simp; have := hBd.size; omega) ?_; intro v' w3 hown hgrow hat; have hB3 := own_below (hBd.alloc hBd.size _) (by simp; have := hBd.size; omega) (row_new hvd ((Below.refl _ _).alloc (Nat.le_refl _) _)) hgrow)
                go_roundw
                case rel => exact ⟨j + 1, by omega, by have := hii2.out; congr 1; omega, own_cast hown (by rw [hnx.out]; simp) (by rw [hnx.out]; simp [litV]), hB3⟩
                case measure => simp [intOf]
              · have f1 : ((s : Int) == 0) = false := by simp; omega
                by_cases hjs : j < s
                · have f2 : decide ((D.its.length : Int) - 1 - (ii : Int) < (s : Int)) = true := by simp; omega
                  have hnx : wnt (lits D) mm s (j + 1) = wnt (lits D) mm s j ++ [xl] := wnt_take (lits D) mm s (j := j) (x := xl) (.inr (.inl hjs)) (by rw [hix]; exact hx1)
                  replace hnx := Lib.hid hnx
                  go_quiet (fail)
                  have hvd : (wr.drewN nq).ownsRow W4.heap.size 27 1 (.slice Aw (wnt (lits D) mm s j).length cw) (wnt (lits D) mm s j).length (litV (wnt (lits D) mm s j)) := row_new hvw (below_drewN' _ _)
                  have hBd := below_drewN hBr nq
                  have d10 : (wr.drewN nq).cell? ⟨Wp.heap.size + 1, 0, none⟩ = some (.slice (some ad) D.its.length c1) := b10
                  have dq0 : (wr.drewN nq).cell? (ad.add ii) = some (.int .i64 xl) := q0
                  clear hvw hBr b10 q0 q2 b6 b18 b19
                  generalize wr.drewN nq = wd at *
                  go_wp2_with (at_builtin; refine wpList_append_any _ rfl _ _ 39 rfl W4.heap.size 27 i0 _ 1 8 Try.underlying39 hi hz0 hz1 hz2 rfl (by omega) (.slice Aw (wnt (lits D) mm s j).length cw) (wnt (lits D) mm s j).length (litV (wnt (lits D) mm s j)) rfl (row_new hvd ((Below.refl _ _).alloc (Nat.le_refl _) _)) (wd.heap.size + 1) (some ⟨wd.heap.size, 0, none⟩) 1 1 [.int .i64 xl] rfl (lit_reads wd 27 _) (by simp [Value.oneCell']) (by simp only [maxLen]; omega) (by omega) (by simp; have := hBd.size; omega) ?_; intro v' w3 hown hgrow hat; have hB3 := own_below (hBd.alloc hBd.size _) (by simp; have := hBd.size; omega) (row_new hvd ((Below.refl _ _).alloc (Nat.le_refl _) _)) hgrow)
                  go_roundw
                  case rel => exact ⟨j + 1, by omega, by have := hii2.out; congr 1; omega, own_cast hown (by rw [hnx.out]; simp) (by rw [hnx.out]; simp [litV]), hB3⟩
                  case measure => simp [intOf]
                · have f2 : decide ((D.its.length : Int) - 1 - (ii : Int) < (s : Int)) = false := by simp; omega
                  by_cases him : ii < mm
                  · have f3 : decide (lx ≤ (k : Int)) = true := by simp; omega
                    have hnx : wnt (lits D) mm s (j + 1) = wnt (lits D) mm s j ++ [xl] := wnt_take (lits D) mm s (j := j) (x := xl) (.inr (.inr (by rw [hix]; exact him))) (by rw [hix]; exact hx1)
                    replace hnx := Lib.hid hnx
                    go_quiet (fail)
                    have hvd : (wr.drewN nq).ownsRow W4.heap.size 27 1 (.slice Aw (wnt (lits D) mm s j).length cw) (wnt (lits D) mm s j).length (litV (wnt (lits D) mm s j)) := row_new hvw (below_drewN' _ _)
                    have hBd := below_drewN hBr nq
                    have d10 : (wr.drewN nq).cell? ⟨Wp.heap.size + 1, 0, none⟩ = some (.slice (some ad) D.its.length c1) := b10
                    have dq0 : (wr.drewN nq).cell? (ad.add ii) = some (.int .i64 xl) := q0
                    clear hvw hBr b10 q0 q2 b6 b18 b19
                    generalize wr.drewN nq = wd at *
                    go_wp2_with (at_builtin; refine wpList_append_any _ rfl _ _ 39 rfl W4.heap.size 27 i0 _ 1 8 Try.underlying39 hi hz0 hz1 hz2 rfl (by omega) (.slice Aw (wnt (lits D) mm s j).length cw) (wnt (lits D) mm s j).length (litV (wnt (lits D) mm s j)) rfl (row_new hvd ((Below.refl _ _).alloc (Nat.le_refl _) _)) (wd.heap.size + 1) (some ⟨wd.heap.size, 0, none⟩) 1 1 [.int .i64 xl] rfl (lit_reads wd 27 _) (by simp [Value.oneCell']) (by simp only [maxLen]; omega) (by omega) (by simp; have := hBd.size; omega) ?_; intro v' w3 hown hgrow hat; have hB3 := own_below (hBd.alloc hBd.size _) (by simp; have := hBd.size; omega) (row_new hvd ((Below.refl _ _).alloc (Nat.le_refl _) _)) hgrow)
                    go_roundw
                    case rel => exact ⟨j + 1, by omega, by have := hii2.out; congr 1; omega, own_cast hown (by rw [hnx.out]; simp) (by rw [hnx.out]; simp [litV]), hB3⟩
                    case measure => simp [intOf]
                  · have f3 : decide (lx ≤ (k : Int)) = false := by simp; omega
                    have hnx : wnt (lits D) mm s (j + 1) = wnt (lits D) mm s j := wnt_pass _ _ _ (by rw [hix]; exact fun h => h.elim hs0 (fun h => h.elim hjs him))
                    replace hnx := Lib.hid hnx
                    go_quiet (fail)
                    go_wp2_with fail
                    go_roundw
                    case rel => exact ⟨j + 1, by omega, by have := hii2.out; congr 1; omega, by rw [hnx.out]; exact row_new hvw (below_drewN' _ _), below_drewN hBr _⟩
                    case measure => simp [intOf]
            · have hje : j = D.its.length := by omega
              subst hje
              have e9 : (D.its.length : Int) - 1 - (D.its.length : Int) = -1 := by omega
              rw [e9]
              obtain ⟨Av3, cv3, rfl⟩ := own_form hrow
              have b19 := hIr.down.cell 0
              simp only [List.getElem?_toArray, List.getElem?_cons_zero] at b19
              have hrw := Reads.of_own (row_new hrow hBr)
              have hvr := Reads.of_own hvw
              have hwl : (wnt (lits D) mm s D.its.length).length ≤ 8 := by have := wnt_len (lits D) mm s D.its.length; omega
              have hr8 := hIr.b8
              have hmk2 : Marks w.heap.size wr ds := hmk.only (only_of_below [] hBr) (by simp)
              have hbf : Below w.heap.size w wr := by
                have h1 := hbw.trans ((hIr.below).mono hbw.size)
                exact h1
              clear hIr hI hrow hvw hBr hmk b18 b6
              generalize wnt (lits D) mm s D.its.length = wl at *
              generalize hwll : wl.length = wn at *
              rw [← hwll] at hrw hvr
              have hEq := equal_lits Av3 Aw wl.length cv3 cw wl _ _ wr hrw hvr (by omega)
              rw [hwll] at hEq
              replace hEq := Lib.hid hEq
              clear hrw hvr hwll
              go_wp2_with (first
                | (go_at_call 21; with_reducible refine hEq.out.mono ?_; rintro e W6 ⟨rfl, hB6⟩)
                | (go_at_call 10; refine (new_n 8 (by omega)).mono ?_; rintro e W7 ⟨d2, fp2, rfl, hT2, hB7⟩; have g2 := hT2.ge d2 (by obtain ⟨_, _, _, _, rfl⟩ := hT2; exact mem_fp.2 (.inl rfl)))
                | (go_at_call 13; refine (assign_n (D' := frT 1) (hT2.new ((Below.refl _ _).alloc (Nat.le_refl _) _)) 1 0 (e := 0) (by decide) rfl).mono ?_; rintro e W8 ⟨rfl, fp3, hT3, hf3, hO3⟩; have c25 : Blk W8 W7.heap.size 23 #[.pointer (some ⟨d2, 0, none⟩)] := (Blk.new W7 23 _).only hO3 (fun hm => by have := (hT2.ge _ hm).2; omega); have b25 := c25.cell 0; simp only [List.getElem?_toArray, List.getElem?_cons_zero] at b25; have hl25 := c25.lt)
                | (go_at_call 28; refine (lits28 _ _ _).mono ?_; rintro e w' ⟨rfl, rfl⟩))
              rename_i hcont
              replace hcont := Lib.hid hcont
              obtain ⟨W9, hW9⟩ : ∃ W9, W9 = (((W8.alloc (.cells #[.int .i64 0] 3)).alloc (.cells #[.pointer (some ⟨d2, 0, none⟩)] 23)).alloc (.cells #[.int .i64 0] 3)) := ⟨_, rfl⟩
              have hB9 : Below W8.heap.size W8 W9 := by
                rw [hW9]
                exact (((Below.refl _ _).alloc (Nat.le_refl _) _).alloc (by simp) _).alloc (by simp; omega) _
              have hs9z : W9.heap.size = W8.heap.size + 3 := by rw [hW9]; simp
              have dn : Blk W9 W8.heap.size 3 #[.int .i64 0] := by rw [hW9]; exact ((Blk.new W8 3 _).alloc _).alloc _
              have dt : Blk W9 (W8.heap.size + 1) 23 #[.pointer (some ⟨d2, 0, none⟩)] := by
                have := Blk.new (W8.alloc (.cells #[.int .i64 0] 3)) 23 #[.pointer (some ⟨d2, 0, none⟩)]
                rw [World.size_alloc] at this
                rw [hW9]; exact this.alloc _
              have df : Blk W9 (W8.heap.size + 1 + 1) 3 #[.int .i64 0] := by
                have := Blk.new ((W8.alloc (.cells #[.int .i64 0] 3)).alloc (.cells #[.pointer (some ⟨d2, 0, none⟩)] 23)) 3 #[.int .i64 0]
                rw [World.size_alloc, World.size_alloc] at this
                rw [hW9]; exact this
              rw [← hW9]
              clear hW9
              have hF0 : FIn W6 W7.heap.size W8.heap.size d2 fp3 [] W9 := by
                refine ⟨dn, hT3.new hB9, fun i hi => ?_, c25.below hB9 hl25, dt, df, ?_, by simp, ⟨hB7.size, hl25⟩⟩
                · have h1 := (hT3.ge i hi).2
                  rcases hf3 i hi with h2 | h2
                  · have := (hT2.ge i h2).2; omega
                  · simp at h2; omega
                · have h1 : Below W6.heap.size W6 (W7.alloc (.cells #[.pointer (some ⟨d2, 0, none⟩)] 23)) := hB7.alloc hB7.size _
                  have h2 := h1.trans (hO3.below h1.size (fun i hi => (hT2.ge i hi).1))
                  exact below_and h2 hB9
              refine (wpIn_wide (n := m)).1 ?_
              refine wpIn_range_join rfl (enters_of Try.func40 (by kernel_rfl) rfl) (seq40 W6.heap.size d2 (W8.heap.size + 1 + 1) (W8.heap.size + 1) 0 (by omega)) (fun _ => rfl)
                (fun fp pre W => ∃ fp', fp = W8.heap.size :: fp' ∧ FIn W6 W7.heap.size W8.heap.size d2 fp' pre W) (fun _ _ => False)
                (fun fp => ownFrom_of fun x W W' kk ⟨f, h1, h2⟩ => ⟨f, h1, h2.ck kk (by have := hF0.below.size; omega)⟩) (ownFrom_of fun _ _ _ kk h => h)
                (fun fp pre W ⟨f, h1, h2⟩ => ⟨h2.bf, h2.bt, by obtain ⟨Ao, co, hO⟩ := h2.trail.ordr; exact ⟨Ao, co, _, hO⟩⟩) (W8.heap.size :: fp3) ?fps3 ⟨_, rfl, hF0⟩
                (fun T pre y a' W => a' = updZ T 176 177 29 y ∧ y.2 = (pre.length : Int) + 1 ∧ pre.length < 8) (fun _ _ _ => ownFrom_of fun _ _ _ _ h => h) ?assign3 6 (fun _ _ h => h) ?body3
                (fun W => Blk W W8.heap.size 3 #[.int .i64 8] ∧ Below W6.heap.size W6 W) ?done3 ?hE3 (fun _ _ h => h.elim) ?fin3
              case fps3 =>
                intro i hi
                rcases List.mem_cons.1 hi with rfl | hi
                · omega
                · exact (hF0.trail.ge i hi).2
              case assign3 =>
                rintro l2 m2 fp pre y W2 K ⟨f, rfl, hI⟩ hX hK
                have hx : y.2 = (pre.length : Int) + 1 ∧ pre.length < 8 := by
                  obtain ⟨h1, A', c', ls', h2, h3⟩ := hX
                  obtain ⟨Ao, co, hO⟩ := hI.trail.ordr
                  rw [h2.uniq hO] at h3
                  have h4 := frT_at h3
                  have h5 := (List.getElem?_eq_some_iff.1 h3).1
                  rw [frT_len] at h5
                  simp at h1
                  omega
                have hfin := hK _ W2 (Only.refl [] _) ⟨f, rfl, hI⟩ ⟨rfl, hx⟩
                clear hK hX hI hx
                simp only [updZ, List.setIfInBounds_toArray, List.set_cons_succ, List.set_cons_zero] at hfin
                replace hfin := Lib.hid hfin
                simp only [enc2]
                gi_wp2
                exact hfin.out
              case body3 =>
                rintro l2 m2 fp pre ⟨y1, y2⟩ a' W2 ⟨f, rfl, hI⟩ ⟨rfl, hy, hl8⟩
                dsimp only at hy
                subst hy
                simp only [updZ, List.setIfInBounds_toArray, List.set_cons_succ, List.set_cons_zero]
                have b27 := hI.bn.cell 0
                have f27 := hI.bn.frozen 0
                have b25 := hI.b25.cell 0
                simp only [List.getElem?_toArray, List.getElem?_cons_zero] at b27 b25
                have e1 : ¬ (8 < (pre.length : Int) + 1) := by omega
                have e2 : (pre.length : Int) ≤ 7 := by omega
                have hOn : Only [W8.heap.size] W2 (W2.setCell ⟨W8.heap.size, 0, none⟩ (.int .i64 ((pre.length : Int) + 1))) := (Only.refl _ W2).setCell (.inl (by simp)) _
                have hn5 := hI.bn.set_ 0 (.int .i64 ((pre.length : Int) + 1))
                have hne : W7.heap.size ≠ W8.heap.size := by omega
                have hcn := hn5.cell 0
                have hc25 := (hI.b25.only hOn (fun hm => by have := List.mem_singleton.1 hm; omega)).cell 0
                simp only [List.getElem?_toArray, List.getElem?_cons_zero] at hcn hc25
                have ht5 : Trail (W2.setCell ⟨W8.heap.size, 0, none⟩ (.int .i64 ((pre.length : Int) + 1))) W6.heap.size d2 f (frT (min (pre.length + 1) 8)) := hI.trail.keep hOn (fun i hi hm => by have := List.mem_singleton.1 hm; have := hI.far i hi; omega)
                by_cases hlt : pre.length < 7
                · have e3 : (pre.length : Int) + 1 < 8 := by omega
                  have hm1 : min (pre.length + 1) 8 = pre.length + 1 := by omega
                  have hm2 : min (pre.length + 1 + 1) 8 = pre.length + 1 + 1 := by omega
                  have hfr := frT_next (pre.length + 1) (by omega) (by omega)
                  rw [hm1] at ht5
                  have hfin := fun (W8' : World) (fp2 : List Nat) (h1 : Only f _ W8') (h2 : ∀ i, i ∈ fp2 → i ∈ f ∨ _ ≤ i) (h3 : Trail W8' W6.heap.size d2 fp2 (frT (min (pre.length + 1 + 1) 8))) => hI.next (y := (y1, (pre.length : Int) + 1)) hOn hn5 h1 h2 h3 hl8
                  rw [hm2] at hfin
                  have hasg := assign_n (D' := frT (pre.length + 1 + 1)) ht5 ((pre.length : Int) + 1 + 1) 0 (e := 0) (by have := hfr.1; simpa using this) (by have := hfr.2; simpa using this)
                  replace hasg := Lib.hid hasg
                  replace hfin := Lib.hid hfin
                  clear hI ht5 hfr hm1 hm2 hOn hn5 b25
                  gi_wp2_with ((first | refine ⟨trivial, no_depth, ?_⟩ | refine ⟨trivial, ?_⟩ | skip); gi_at_call 13; refine ((callsIn_wide.2 hasg.out).inRound l2).mono ?_; rintro e W9' ⟨rfl, fp2, t1, t2, t3⟩)
                  obtain ⟨q1, q2, q3⟩ := hfin.out W9' fp2 t3 t2 t1
                  exact ⟨q1, _, ⟨_, rfl, q2⟩, q3⟩
                · have e3 : ¬ ((pre.length : Int) + 1 < 8) := by omega
                  have hm1 : min (pre.length + 1) 8 = min (pre.length + 1 + 1) 8 := by omega
                  rw [hm1] at ht5
                  obtain ⟨q1, q2, q3⟩ := hI.next (y := (y1, (pre.length : Int) + 1)) hOn hn5 (Only.refl f _) (fun i hi => .inl hi) ht5 hl8
                  replace q1 := Lib.hid q1
                  replace q2 := Lib.hid q2
                  replace q3 := Lib.hid q3
                  clear hI ht5 hm1 hOn hn5 b25
                  gi_wp2_with (refine ⟨trivial, ?_⟩)
                  exact ⟨q1.out, _, ⟨_, rfl, q2.out⟩, q3.out⟩
              case done3 =>
                rintro fp xs W2 ⟨A', c', ls', hE1, hE2⟩ ⟨f, rfl, hI⟩
                obtain ⟨Ao, co, hO⟩ := hI.trail.ordr
                rw [hE1.uniq hO, frT_len] at hE2
                have h8 := hI.few
                have e : xs.length = 8 := by simp at hE2; omega
                have := hI.bn
                rw [e] at this
                exact ⟨this, hI.below⟩
              case hE3 =>
                rintro xs W l o o' h1 h2 h3 ⟨A', c', ls, h4, h5⟩
                exact ⟨A', c', ls, h4.ck (CellsKept.putObj (B := 0) W _ h2 h3 (Nat.zero_le _)), h5⟩
              case fin3 =>
                intro D3 W10 hD3 ⟨hn8, hB10⟩ hDm
                refine hcont.out _ _ ?_
                clear hcont
                dsimp only
                have b27 := hn8.cell 0
                have hr9 := (hr8.below hB6 hr8.lt).below hB10 (by have := hr8.lt; have := hB6.size; omega)
                have hm9 := (hmk2.only (only_of_below [] hB6) (by simp)).only (only_of_below [] hB10) (by simp)
                have hb9 := below_and (below_and hbf hB6) hB10
                have c8 := hr9.cell 0
                have fz8 := hr9.frozen 0
                simp only [List.getElem?_toArray, List.getElem?_cons_zero] at b27 c8
                have hlt8 := hr9.lt
                have hr8l : w.heap.size + 1 < W8.heap.size := by have := hr8.lt; have := hB6.size; have := hB7.size; omega
                go_wp2_with (go_at_call 18; refine (awake_ok _).mono ?_; rintro e W11 ⟨rfl, hB11⟩; have hr11 := hr9.below hB11 hr9.lt; have c11 := hr11.cell 0; have f11 := hr11.frozen 0; simp only [List.getElem?_toArray, List.getElem?_cons_zero] at c11; have hlt11 := hr11.lt)
                have hD3l := (Array.getElem?_eq_some_iff.1 hDm).1
                have hDm11 : W11.heap[D3]? = some (.deferred (some [])) := (hB11.block D3 hD3l).trans hDm
                have hwr9 : wr.heap.size ≤ D3 := by have := hB6.size; have := hB7.size; omega
                have hm11 := (hm9.only (only_of_below [] hB11) (by simp)).push (by omega) hDm11 (fun D' hm => by have := (hmk2.lt hm).1; omega)
                have hm12 := hm11.only (fp := [w.heap.size + 1]) ((Only.refl [w.heap.size + 1] W11).setCell (p := ⟨w.heap.size + 1, 0, none⟩) (.inl (by simp)) (.bool true)) (fun i o hi ho => by rw [List.mem_singleton] at hi; subst hi; exact blk_cells hr11 ho)
                have hb12 := (below_and hb9 hB11).setCell (p := ⟨w.heap.size + 1, 0, none⟩) (Nat.le_succ _) (.bool true)
                have hr12 := hr11.set_ 0 (.bool true)
                refine leaves_marks hm12 (fun W12 k12 => ⟨.bool true, ?_, rfl, below_ck hb12 (Nat.le_refl _) k12 (Nat.le_refl _)⟩)
                have c12 := (hr12.ck k12).cell 0
                simp at c12
                simp [results, Try.results6, go_sem, c12]
theorem law_yields (A : Option Addr) (n c B : Nat) (l : List Int) (w : World) (hrd : Reads w B 1 A n (l.map (Value.int .u8))) (hB : B ≤ w.heap.size) (hm : n ≤ 9223372036854775807) (hc : n ≤ c) (hl : ∀ x ∈ l, 0 ≤ x ∧ x ≤ 255)
    (fr st tl : Int) (hf : 0 ≤ fr ∧ fr ≤ 255) (hs : 0 ≤ st ∧ st ≤ 255) (ht : 0 ≤ tl ∧ tl ≤ 255) :
    Calls Try.prog 6 #[.slice A n c, .int .u8 fr, .int .u8 st, .int .u8 tl] w fun e w' => e = .returned (.bool true) ∧ Below w.heap.size w w' :=
  callsIn_wide.1 (yields_in 3 (by omega) A n c B l w hrd hB hm hc hl fr st tl hf hs ht)
end Go.Proofs.Ytkedepkhcbhcdaa
