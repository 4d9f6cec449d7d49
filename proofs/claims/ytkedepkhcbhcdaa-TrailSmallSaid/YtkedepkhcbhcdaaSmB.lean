/- Trails: law 8. -/
import Derived.Test.YtkedepkhcbhcdaaSmA
import Derived.Test.YtkedepkhcbhcdaaTrlI
import Derived.StillTailTactics
namespace Go.Proofs.Ytkedepkhcbhcdaa
open Go Go.RowKit Go.Shelf
set_option linter.unusedVariables false
set_option linter.unusedSimpArgs false
set_option maxHeartbeats 4000000
/-- As many levels. -/
def Dk (k : Nat) : Trl := { n := 1, its := [], st := List.replicate (k + 1) 0 }
theorem dk_push {k : Nat} (hk : k < 1048575) : pshE (Dk k) = 0 ∧ pshD (Dk k) = Dk (k + 1) := by
  have hl : (Dk k).st.length ≠ 1048576 := by unfold Dk; rw [List.length_replicate]; omega
  refine ⟨if_neg hl, ?_⟩
  unfold pshD
  rw [if_neg hl]
  unfold psh Dk
  rw [List.replicate_succ' (n := k + 1)]
  rfl
theorem dk_full : pshE (Dk 1048575) = 5 ∧ pshD (Dk 1048575) = Dk 1048575 := by
  have hl : (Dk 1048575).st.length = 1048576 := by unfold Dk; rw [List.length_replicate]
  exact ⟨if_pos hl, if_pos hl⟩
theorem dk_now (k : Nat) : ((Dk k).st.length : Int) - 1 = (k : Int) := by unfold Dk; rw [List.length_replicate]; omega
theorem dk_asg (k : Nat) : asgE (Dk k) 1 0 = 0 ∧ asgD (Dk k) 1 0 = asg (Dk k) 1 0 := by
  have h : asgE (Dk k) 1 0 = 0 := by
    unfold asgE
    rw [if_neg (by simp [isV, Dk]), if_neg (by omega)]
    simp [Dk, row, pos]
  exact ⟨h, if_pos h⟩
theorem dk_back (k : Nat) (hk : 1 ≤ k) : bckE (asg (Dk k) 1 0) 0 = 0 ∧ bckD (asg (Dk k) 1 0) 0 = Dk 0 := by
  have hl : (asg (Dk k) 1 0).st.length = k + 1 := by unfold asg Dk; exact List.length_replicate
  refine ⟨if_pos (by omega), ?_⟩
  unfold bckD
  rw [if_pos (by omega)]
  unfold bck
  rw [if_pos (by rw [hl]; simp; omega)]
  have h1 : (asg (Dk k) 1 0).st[(0 : Int).toNat + 1]? = some 0 := by
    show (List.replicate (k + 1) 0)[1]? = some 0
    rw [List.getElem?_replicate, if_pos (by omega)]
  rw [h1]
  unfold Dk asg
  simp [List.take_replicate]
theorem rright1 (W : World) : Calls Try.prog 31 #[.int .i64 1] W fun e w' => e = .returned (.bool true) ∧ W = w' := by
  have h := rright (w := W) 1
  rwa [show rightL 1 = true by decide] at h
/-- While the trails that are none are asked. -/
structure ZI (w1 : World) (S z : Nat) (ds : List Deferred) (W : World) : Prop where
  below : Below w1.heap.size w1 W
  row : Blk W S 23 #[.pointer none, .pointer (some ⟨z, 0, none⟩)]
  dz : Blk W z 63 #[.slice none 0 0, .slice none 0 0, .slice none 0 0, .bool false]
  marks : Marks w1.heap.size W ds
section
variable {w1 W W' W0 : World} {S z : Nat} {ds : List Deferred}
theorem ZI.new (h : ZI w1 S z ds W) (hb : Below W.heap.size W W') : ZI w1 S z ds W' := ⟨below_and h.below hb, h.row.below hb h.row.lt, h.dz.below hb h.dz.lt, h.marks.only (only_of_below [] hb) (by simp)⟩
theorem ZI.ck {B : Nat} (hm : Marks w1.heap.size W0 ds) (h : ZI w1 S z ds W) (k : CellsKept B W W') (hB : w1.heap.size ≤ B) (hC : W0.heap.size ≤ B) : ZI w1 S z ds W' :=
  ⟨below_ck h.below (Nat.le_refl _) k hB, h.row.ck k, h.dz.ck k, marks_keep hm h.marks k hC⟩
theorem ZI.dead (h : ZI w1 S z ds W) {p : Value} (hp : p = .pointer none ∨ p = .pointer (some ⟨z, 0, none⟩)) : Dead p W := by
  rcases hp with rfl | rfl
  · exact .inl rfl
  · exact .inr ⟨z, rfl, h.dz⟩
end
/-- The cell of the answer. -/
structure SmI (w : World) (W : World) : Prop where
  below : Below w.heap.size w W
  r : Blk W w.heap.size 4 #[.bool false]
theorem SmI.new {w W W' : World} (h : SmI w W) (hb : Below W.heap.size W W') : SmI w W' := ⟨below_and h.below hb, h.r.below hb h.r.lt⟩
theorem SmI.to {w W w1 : World} (h : SmI w W) (hw : w1 = w.alloc (.cells #[.bool false] 4)) : Below w1.heap.size w1 W := by
  subst hw
  refine ⟨h.below.os, h.below.tape, h.below.output, by rw [World.size_alloc]; exact h.r.lt, fun i hi => ?_⟩
  rw [World.size_alloc] at hi
  by_cases he : i = w.heap.size
  · subst he
    exact h.r.trans (Blk.new w 4 #[.bool false]).symm
  · exact (h.below.block i (by omega)).trans (Below.heap_alloc w _ i (by omega)).symm
def nine : List ActV := [(0, 1, 3), (0, -1, 0), (0, 2, 1073741824), (0, -2, 4), (5, 0, 0), (7, 0, 0), (7, 1, 0), (7, 2, 0), (0, 3, 0)]
theorem nine_ok : ∀ x ∈ nine, ActV.Ok x := by
  intro x hx
  simp [nine] at hx
  rcases hx with rfl | rfl | rfl | rfl | rfl | rfl | rfl | rfl | rfl <;> (unfold ActV.Ok; decide)
def nums : List Int := [-9223372036854775808, -1048577, -1048576, -1, 0, 1, 1048576, 1048577, 1073741824, 1073741825, 9223372036854775807]
theorem nums_ok : ∀ x ∈ nums, -9223372036854775808 ≤ x ∧ x ≤ 9223372036854775807 := by
  intro x hx
  simp [nums] at hx
  rcases hx with rfl | rfl | rfl | rfl | rfl | rfl | rfl | rfl | rfl | rfl | rfl <;> decide
/-- A slice of acts, made at once. -/
theorem acts_new (W : World) (l : List ActV) (cs : Array Value) (hcs : cs.toList = encAs l) : Reads (W.alloc (.cells cs 59)) (W.heap.size + 1) 3 (some ⟨W.heap.size, 0, none⟩) l.length (encAs l) := by
  refine ⟨encAs_len l, fun _ => ⟨_, rfl, by simp, fun j u hu => ?_⟩⟩
  have h0 := (Blk.new W 59 cs).cell j
  rw [Addr.add_lit, Nat.zero_add, h0]
  rw [← hcs] at hu
  simpa using hu
/-- plays, of a slice that was made at once. -/
theorem plays_new (vars : Int) (W : World) (l : List ActV) (cs : Array Value) (n : Nat) (hl : l.length = n) (hcs : cs.toList = encAs l) (hn : n ≤ 150) (hok : ∀ x ∈ l, ActV.Ok x) :
    Calls Try.prog 30 #[.int .i64 vars, .slice (some ⟨W.heap.size, 0, none⟩) n n] (W.alloc (.cells cs 59)) fun e w' => e = .returned (.bool true) ∧ Below (W.alloc (.cells cs 59)).heap.size (W.alloc (.cells cs 59)) w' := by
  subst hl
  exact plays_ok vars _ _ _ (W.heap.size + 1) l _ (acts_new W l cs hcs) (by simp) hn (Nat.le_refl _) hok
theorem plays_newd (vars : Int) (W : World) (l : List ActV) (cs : Array Value) (n : Nat) (hl : l.length = n) (hcs : cs.toList = encAs l) (hn : n ≤ 150) (hok : ∀ x ∈ l, ActV.Ok x) :
    Calls Try.prog 30 #[.int .i64 vars, .slice (some ⟨W.heap.size, 0, none⟩) n n] (W.alloc (.cells cs 59)).drew fun e w' => e = .returned (.bool true) ∧ Below (W.alloc (.cells cs 59)).heap.size (W.alloc (.cells cs 59)) w' := by
  subst hl
  refine (plays_ok vars _ _ _ (W.heap.size + 1) l _ (acts_new W l cs hcs).drew (by show _ ≤ (W.alloc (.cells cs 59)).heap.size; simp) hn (Nat.le_refl _) hok).mono ?_
  rintro e w' ⟨h1, h2⟩
  exact ⟨h1, ⟨h2.os, h2.tape, h2.output, h2.size, h2.block⟩⟩
set_option maxRecDepth 100000 in
theorem small_in (m : Nat) (hm1 : 3 ≤ m) (w : World) : CallsIn Fence.wide m Try.prog 8 #[] w fun e w' => e = .returned (.bool true) ∧ Below w.heap.size w w' := by
  refine callsIn_of_wp_marks Try.func8 rfl trivial ?_ rfl
  simp only [Try.ntmps8, List.size_toArray, List.length_cons, List.length_nil, Nat.reduceAdd, Nat.reduceSub, Array.replicate_succ, Array.replicate_zero, List.push_toArray, List.append_toArray, List.nil_append, List.cons_append]
  refine wpIn_wide.2 ?_
  have hr0 := Blk.new w 4 #[.bool false]
  have hB0 : Below w.heap.size w (w.alloc (.cells #[.bool false] 4)) := (Below.refl _ _).alloc (Nat.le_refl _) _
  have hS0 : SmI w (w.alloc (.cells #[.bool false] 4)) := ⟨hB0, hr0⟩
  have hn9 := acts_new (w.alloc (.cells #[.bool false] 4)) nine #[.int .u8 0, .int .i64 1, .int .i64 3, .int .u8 0, .int .i64 (-1), .int .i64 0, .int .u8 0, .int .i64 2, .int .i64 1073741824, .int .u8 0, .int .i64 (-2), .int .i64 4, .int .u8 5, .int .i64 0, .int .i64 0, .int .u8 7, .int .i64 0, .int .i64 0, .int .u8 7, .int .i64 1, .int .i64 0, .int .u8 7, .int .i64 2, .int .i64 0, .int .u8 0, .int .i64 3, .int .i64 0] rfl
  have hS1 := hS0.new ((Below.refl _ _).alloc (Nat.le_refl _) (.cells #[.int .u8 0, .int .i64 1, .int .i64 3, .int .u8 0, .int .i64 (-1), .int .i64 0, .int .u8 0, .int .i64 2, .int .i64 1073741824, .int .u8 0, .int .i64 (-2), .int .i64 4, .int .u8 5, .int .i64 0, .int .i64 0, .int .u8 7, .int .i64 0, .int .i64 0, .int .u8 7, .int .i64 1, .int .i64 0, .int .u8 7, .int .i64 2, .int .i64 0, .int .u8 0, .int .i64 3, .int .i64 0] 59))
  rw [World.size_alloc] at hn9
  go_wp2_with fail
  have hsz1 : w.heap.size + 1 + 1 ≤ ((w.alloc (.cells #[.bool false] 4)).alloc (.cells #[.int .u8 0, .int .i64 1, .int .i64 3, .int .u8 0, .int .i64 (-1), .int .i64 0, .int .u8 0, .int .i64 2, .int .i64 1073741824, .int .u8 0, .int .i64 (-2), .int .i64 4, .int .u8 5, .int .i64 0, .int .i64 0, .int .u8 7, .int .i64 0, .int .i64 0, .int .u8 7, .int .i64 1, .int .i64 0, .int .u8 7, .int .i64 2, .int .i64 0, .int .u8 0, .int .i64 3, .int .i64 0] 59)).heap.size := by simp
  generalize (w.alloc (.cells #[.bool false] 4)).alloc (.cells #[.int .u8 0, .int .i64 1, .int .i64 3, .int .u8 0, .int .i64 (-1), .int .i64 0, .int .u8 0, .int .i64 2, .int .i64 1073741824, .int .u8 0, .int .i64 (-2), .int .i64 4, .int .u8 5, .int .i64 0, .int .i64 0, .int .u8 7, .int .i64 0, .int .i64 0, .int .u8 7, .int .i64 1, .int .i64 0, .int .u8 7, .int .i64 2, .int .i64 0, .int .u8 0, .int .i64 3, .int .i64 0] 59) = W1 at *
  generalize (⟨w.heap.size + 1, 0, none⟩ : Addr) = ad at *
  clear hS0 hB0 hr0
  go_loopw [30] (fun i wr => ∃ k : Nat, k ≤ 6561 ∧ i = .int .i64 k ∧ SmI w wr ∧ Reads wr (w.heap.size + 1 + 1) 3 (some ad) 9 (encAs nine) ∧ w.heap.size + 1 + 1 ≤ wr.heap.size) (fun i _ => 6561 - (intOf i).toNat)
  case atStart => exact ⟨0, by omega, rfl, hS1, hn9, hsz1⟩
  case round =>
    clear hS1 hn9 hsz1
    clear W1
    obtain ⟨k, hk, rfl, hS, hrd, hsz⟩ := hrel
    by_cases hlt : k < 6561
    · have u1 : (k : Int) < 6561 := by omega
      have u0 : 0 ≤ (k : Int) := by omega
      obtain ⟨i1, hi1, j1⟩ : ∃ i : Nat, (k : Int).tmod 9 = (i : Int) ∧ i < 9 := ⟨k % 9, by rw [Int.tmod_eq_emod_of_nonneg (by omega)]; omega, by omega⟩
      obtain ⟨d2, hd2, hw2, c2⟩ : ∃ d : Nat, k / 9 = d ∧ IntKind.i64.wrap ((k : Int) / 9) = (d : Int) ∧ d ≤ 6561 := ⟨_, rfl, by simp [IntKind.wrap, IntKind.bits, IntKind.signed]; omega, by omega⟩
      obtain ⟨d3, hd3, hw3, c3⟩ : ∃ d : Nat, k / 81 = d ∧ IntKind.i64.wrap ((k : Int) / 81) = (d : Int) ∧ d ≤ 6561 := ⟨_, rfl, by simp [IntKind.wrap, IntKind.bits, IntKind.signed]; omega, by omega⟩
      obtain ⟨i2, hi2, j2⟩ : ∃ i : Nat, (d2 : Int).tmod 9 = (i : Int) ∧ i < 9 := ⟨d2 % 9, by rw [Int.tmod_eq_emod_of_nonneg (by omega)]; omega, by omega⟩
      obtain ⟨i3, hi3, j3⟩ : ∃ i : Nat, (d3 : Int).tmod 9 = (i : Int) ∧ i < 9 := ⟨d3 % 9, by rw [Int.tmod_eq_emod_of_nonneg (by omega)]; omega, by omega⟩
      obtain ⟨i4, hi4, j4⟩ : ∃ i : Nat, IntKind.i64.wrap ((k : Int) / 729) = (i : Int) ∧ i < 9 := ⟨k / 729, by simp [IntKind.wrap, IntKind.bits, IntKind.signed]; omega, by omega⟩
      clear hd2 hd3 c2 c3
      have l1 : (i1 : Int) < 9 := by omega
      have l2 : (i2 : Int) < 9 := by omega
      have l3 : (i3 : Int) < 9 := by omega
      have l4 : (i4 : Int) < 9 := by omega
      have m1 : 0 ≤ (i1 : Int) := by omega
      have m2 : 0 ≤ (i2 : Int) := by omega
      have m3 : 0 ≤ (i3 : Int) := by omega
      have m4 : 0 ≤ (i4 : Int) := by omega
      obtain ⟨_, x1, e1, _, hx1, p0, p1, p2⟩ := reads_act hrd j1
      injection e1 with e1
      subst e1
      obtain ⟨_, x2, e2, _, hx2, q0, q1, q2⟩ := reads_act hrd j2
      injection e2 with e2
      subst e2
      obtain ⟨_, x3, e3, _, hx3, r0, r1, r2⟩ := reads_act hrd j3
      injection e3 with e3
      subst e3
      obtain ⟨_, x4, e4, _, hx4, s0, s1, s2⟩ := reads_act hrd j4
      injection e4 with e4
      subst e4
      obtain ⟨x10, x11, x12⟩ := x1
      obtain ⟨x20, x21, x22⟩ := x2
      obtain ⟨x30, x31, x32⟩ := x3
      obtain ⟨x40, x41, x42⟩ := x4
      have o1 := nine_ok _ (List.mem_of_getElem? hx1)
      have o2 := nine_ok _ (List.mem_of_getElem? hx2)
      have o3 := nine_ok _ (List.mem_of_getElem? hx3)
      have o4 := nine_ok _ (List.mem_of_getElem? hx4)
      dsimp only at p0 p1 p2 q0 q1 q2 r0 r1 r2 s0 s1 s2
      have hpl := plays_newd 2 wr [(x10, x11, x12), (x20, x21, x22), (5, 0, 0), (x30, x31, x32), (x40, x41, x42)] #[.int .u8 x10, .int .i64 x11, .int .i64 x12, .int .u8 x20, .int .i64 x21, .int .i64 x22, .int .u8 5, .int .i64 0, .int .i64 0, .int .u8 x30, .int .i64 x31, .int .i64 x32, .int .u8 x40, .int .i64 x41, .int .i64 x42] 5 rfl rfl (by decide) (by
        intro x hx
        simp at hx
        rcases hx with rfl | rfl | rfl | rfl | rfl
        · exact o1
        · exact o2
        · unfold ActV.Ok; decide
        · exact o3
        · exact o4)
      clear hx1 hx2 hx3 hx4 o1 o2 o3 o4
      replace hpl := Lib.hid hpl
      go_wp2_with fail
      go_still_tail 23, (by kernel_rfl)
      change wpList _ _ _ _ _ wr.drew
      have hBd : Below wr.heap.size wr (wr.alloc (.cells #[.int .u8 x10, .int .i64 x11, .int .i64 x12, .int .u8 x20, .int .i64 x21, .int .i64 x22, .int .u8 5, .int .i64 0, .int .i64 0, .int .u8 x30, .int .i64 x31, .int .i64 x32, .int .u8 x40, .int .i64 x41, .int .i64 x42] 59)) := (Below.refl _ _).alloc (Nat.le_refl _) _
      clear p0 p1 p2 q0 q1 q2 r0 r1 r2 s0 s1 s2
      go_wp2_with (go_at_call 30; (with_reducible refine hpl.out.mono ?_); rintro e w9 ⟨rfl, hB9⟩)
      have hB10 := below_and hBd hB9
      go_roundw
      case rel => exact ⟨k + 1, by omega, by go_num, hS.new hB10, hrd.below (hB10.mono hsz), Nat.le_trans hsz hB10.size⟩
      case measure => simp [intOf]; omega
    · have u1 : ¬ (k : Int) < 6561 := by omega
      clear hrd hsz
      have hSn := hS.new ((Below.refl _ wr).alloc (Nat.le_refl _) (.cells #[.int .i64 (-9223372036854775808), .int .i64 (-1048577), .int .i64 (-1048576), .int .i64 (-1), .int .i64 0, .int .i64 1, .int .i64 1048576, .int .i64 1048577, .int .i64 1073741824, .int .i64 1073741825, .int .i64 9223372036854775807] 3))
      have hrn := own_all (base := wr.heap.size) (b := 11) (size := 1) (xs := litV nums) (Blk.new wr 3 #[.int .i64 (-9223372036854775808), .int .i64 (-1048577), .int .i64 (-1048576), .int .i64 (-1), .int .i64 0, .int .i64 1, .int .i64 1048576, .int .i64 1048577, .int .i64 1073741824, .int .i64 1073741825, .int .i64 9223372036854775807]) (Nat.le_refl _) rfl rfl (by decide)
      have hrd := Reads.of_own hrn
      go_wp2_with fail
      have hsz : wr.heap.size + 1 ≤ (wr.alloc (.cells #[.int .i64 (-9223372036854775808), .int .i64 (-1048577), .int .i64 (-1048576), .int .i64 (-1), .int .i64 0, .int .i64 1, .int .i64 1048576, .int .i64 1048577, .int .i64 1073741824, .int .i64 1073741825, .int .i64 9223372036854775807] 3)).heap.size := by simp
      generalize wr.alloc (.cells #[.int .i64 (-9223372036854775808), .int .i64 (-1048577), .int .i64 (-1048576), .int .i64 (-1), .int .i64 0, .int .i64 1, .int .i64 1048576, .int .i64 1048577, .int .i64 1073741824, .int .i64 1073741825, .int .i64 9223372036854775807] 3) = W2 at *
      generalize (⟨wr.heap.size, 0, none⟩ : Addr) = ad2 at *
      obtain ⟨B2, hB2⟩ : ∃ B, B = W2.heap.size := ⟨_, rfl⟩
      rw [← hB2] at hrd
      have hsz2 : B2 ≤ W2.heap.size := by omega
      clear hsz hB2 hS u1 hrn
      clear wr
      go_loopw [63] (fun i wr => ∃ j : Nat, j ≤ 11 ∧ i = .int .i64 j ∧ SmI w wr ∧ Reads wr B2 1 (some ad2) 11 (litV nums) ∧ B2 ≤ wr.heap.size) (fun i _ => 11 - (intOf i).toNat)
      case atStart => exact ⟨0, by omega, rfl, hSn, hrd, hsz2⟩
      case round =>
        clear hSn hrd hsz2
        clear W2
        obtain ⟨j, hj, rfl, hS, hrd, hsz⟩ := hrel
        by_cases hlt : j < 11
        · have u1 : (j : Int) < 11 := by omega
          have u0 : 0 ≤ (j : Int) := by omega
          obtain ⟨_, x, e1, _, hx, q0⟩ := reads_num hrd hlt
          injection e1 with e1
          subst e1
          have hxb := nums_ok x (List.mem_of_getElem? hx)
          clear hx
          have hx0 := hxb.1
          have hx1 := hxb.2
          have hp1 := fun W => plays_new x W [(0, 1, 0)] #[.int .u8 0, .int .i64 1, .int .i64 0] 1 rfl rfl (by decide) (by intro y hy; simp at hy; subst hy; all_goals (unfold ActV.Ok; dsimp only; omega))
          replace hp1 := Lib.hid hp1
          have hp2 := fun W => plays_new 2 W [(0, x, 0), (0, 1, x), (7, x, 0), (0, 2, x)] #[.int .u8 0, .int .i64 x, .int .i64 0, .int .u8 0, .int .i64 1, .int .i64 x, .int .u8 7, .int .i64 x, .int .i64 0, .int .u8 0, .int .i64 2, .int .i64 x] 4 rfl rfl (by decide) (by intro y hy; simp at hy; rcases hy with rfl | rfl | rfl | rfl; all_goals (unfold ActV.Ok; dsimp only; omega))
          replace hp2 := Lib.hid hp2
          have hp3 := fun W => plays_new 1048576 W [(0, x, 0), (0, x, 0)] #[.int .u8 0, .int .i64 x, .int .i64 0, .int .u8 0, .int .i64 x, .int .i64 0] 2 rfl rfl (by decide) (by intro y hy; simp at hy; subst hy; all_goals (unfold ActV.Ok; dsimp only; omega))
          replace hp3 := Lib.hid hp3
          clear hxb
          go_wp2_with (first
            | (go_at_call 30; (with_reducible refine (hp1.out _).mono ?_); rintro e W4 ⟨rfl, hB4⟩)
            | (go_at_call 30; (with_reducible refine (hp2.out _).mono ?_); rintro e W5 ⟨rfl, hB5⟩)
            | (go_at_call 30; (with_reducible refine (hp3.out _).mono ?_); rintro e W6 ⟨rfl, hB6⟩)
            | (refine ⟨trivial, ?_⟩))
          have hBn := below_and (below_and (((Below.refl _ wr).alloc (Nat.le_refl _) (.cells #[.int .u8 0, .int .i64 1, .int .i64 0] 59))) hB4) (((Below.refl _ W4).alloc (Nat.le_refl _) (.cells #[.int .u8 0, .int .i64 x, .int .i64 0, .int .u8 0, .int .i64 1, .int .i64 x, .int .u8 7, .int .i64 x, .int .i64 0, .int .u8 0, .int .i64 2, .int .i64 x] 59)))
          have hBm := below_and (below_and (below_and hBn hB5) ((Below.refl _ W5).alloc (Nat.le_refl _) (.cells #[.int .u8 0, .int .i64 x, .int .i64 0, .int .u8 0, .int .i64 x, .int .i64 0] 59))) hB6
          go_roundw
          case rel => exact ⟨j + 1, by omega, by go_num, hS.new hBm, hrd.below (hBm.mono hsz), Nat.le_trans hsz hBm.size⟩
          case measure => simp [intOf]; omega
        · have u1 : ¬ (j : Int) < 11 := by omega
          obtain ⟨w1, hw1⟩ : ∃ w1, w1 = w.alloc (.cells #[.bool false] 4) := ⟨_, rfl⟩
          have hb1 : Below w1.heap.size w1 wr := hS.to hw1
          have hrw1 : Blk w1 w.heap.size 4 #[.bool false] := by rw [hw1]; exact Blk.new _ _ _
          have hbw1 : Below w.heap.size w w1 := by rw [hw1]; exact (Below.refl _ _).alloc (Nat.le_refl _) _
          clear hw1 hS hrd hsz
          have hnew : Calls Try.prog 10 #[.int .i64 1] wr fun e w' => ∃ d, e = .returned (.tuple #[.pointer (some ⟨d, 0, none⟩), .int .i64 0]) ∧ Own w1 d (Dk 0) w' := own_new (w := w1) (W := wr) 1 (by decide) hb1
          replace hnew := Lib.hid hnew
          go_wp2_with (first
            | (go_at_call 10; (with_reducible refine hnew.out.mono ?_); rintro e W3 ⟨d, rfl, hO⟩; have hrt : Calls Try.prog 31 #[.int .i64 1] W3 (fun e w' => e = .returned (.bool true) ∧ W3 = w') := rright1 W3; replace hrt := Lib.hid hrt; clear hnew)
            | (refine ⟨trivial, ?_⟩; go_at_call 31; (with_reducible refine hrt.out.mono ?_); rintro e W4 ⟨rfl, hww⟩; cases hww)
            | (go_at_call 31; (with_reducible refine hrt.out.mono ?_); rintro e W4 ⟨rfl, hww⟩; cases hww))
          go_loopw [109] (fun i wr => ∃ k : Nat, k ≤ 1048575 ∧ i = .int .i64 k ∧ Own w1 d (Dk k) wr) (fun i _ => 1048575 - (intOf i).toNat)
          case atStart => exact ⟨0, by omega, rfl, hO⟩
          case round =>
            clear hO hb1 hrt
            clear W3
            obtain ⟨q, hq, rfl, hO⟩ := hrel
            by_cases hlt : q < 1048575
            · have v1 : (q : Int) < 1048575 := by omega
              have hpu := own_push hO (dk_push hlt).1 (dk_push hlt).2
              replace hpu := Lib.hid hpu
              clear hO
              go_wp2_with (go_at_call 12; (with_reducible refine hpu.out.mono ?_); rintro e W4 ⟨rfl, hO⟩)
              go_roundw
              case rel => exact ⟨q + 1, by omega, by go_num, hO⟩
              case measure => simp [intOf]; omega
            · have v1 : ¬ (q : Int) < 1048575 := by omega
              have hq2 : q = 1048575 := by omega
              rw [hq2] at hO
              clear hq2
              have hc1 := own_push hO dk_full.1 dk_full.2
              replace hc1 := Lib.hid hc1
              clear hO
              go_wp2_with (first
                | (go_at_call 12; (with_reducible refine hc1.out.mono ?_); rintro e Wa ⟨rfl, hOa⟩; clear hc1; have hc2 := own_now hOa (x := 1048575) (dk_now 1048575); replace hc2 := Lib.hid hc2)
                | (refine ⟨trivial, ?_⟩; go_at_call 20; (with_reducible refine hc2.out.mono ?_); rintro e Wb ⟨rfl, hww⟩; cases hww; clear hc2; have hc3 := own_assign hOa 1 0 (dk_asg _).1 (dk_asg _).2; replace hc3 := Lib.hid hc3; clear hOa)
                | (go_at_call 20; (with_reducible refine hc2.out.mono ?_); rintro e Wb ⟨rfl, hww⟩; cases hww; clear hc2; have hc3 := own_assign hOa 1 0 (dk_asg _).1 (dk_asg _).2; replace hc3 := Lib.hid hc3; clear hOa)
                | (go_at_call 13; (with_reducible refine hc3.out.mono ?_); rintro e Wc ⟨rfl, hOc⟩; clear hc3; have hc4 := own_back hOc 0 (dk_back _ (by omega)).1 (dk_back _ (by omega)).2; replace hc4 := Lib.hid hc4; clear hOc)
                | (go_at_call 15; (with_reducible refine hc4.out.mono ?_); rintro e Wd ⟨rfl, hOd⟩; clear hc4; have hc5 := own_len hOd (x := 0) rfl; replace hc5 := Lib.hid hc5)
                | (go_at_call 23; (with_reducible refine hc5.out.mono ?_); rintro e We ⟨rfl, hww⟩; cases hww; clear hc5; have hc6 := own_push hOd (dk_push (by omega)).1 (dk_push (by omega)).2; replace hc6 := Lib.hid hc6; clear hOd)
                | (go_at_call 12; (with_reducible refine hc6.out.mono ?_); rintro e Wf ⟨rfl, hOf⟩; clear hc6))
              obtain ⟨fpO, hbT, hbO⟩ := hOf
              clear hbT
              have hdz := (Blk.new Wf 63 #[.slice none 0 0, .slice none 0 0, .slice none 0 0, .bool false]).alloc (.cells #[.pointer none, .pointer (some ⟨Wf.heap.size, 0, none⟩)] 23)
              have hrow := Blk.new (Wf.alloc (.cells #[.slice none 0 0, .slice none 0 0, .slice none 0 0, .bool false] 63)) 23 #[.pointer none, .pointer (some ⟨Wf.heap.size, 0, none⟩)]
              rw [World.size_alloc] at hrow
              have hZ : ZI w1 (Wf.heap.size + 1) Wf.heap.size [] ((Wf.alloc (.cells #[.slice none 0 0, .slice none 0 0, .slice none 0 0, .bool false] 63)).alloc (.cells #[.pointer none, .pointer (some ⟨Wf.heap.size, 0, none⟩)] 23)) :=
                ⟨below_and hbO (((Below.refl _ _).alloc (Nat.le_refl _) _).alloc (by simp) _), hrow, hdz, trivial⟩
              clear hdz hrow hbO
              generalize (Wf.alloc (.cells #[.slice none 0 0, .slice none 0 0, .slice none 0 0, .bool false] 63)).alloc (.cells #[.pointer none, .pointer (some ⟨Wf.heap.size, 0, none⟩)] 23) = WZ at *
              generalize hSz : Wf.heap.size + 1 = S at *
              generalize Wf.heap.size = z at *
              clear hSz
              refine (wpIn_wide (n := m)).1 ?_
              refine wpIn_loop_rounds 3 ?_
              rw [roundsIn_succ]
              refine wpIn_wide.2 ?_
              have r0 := hZ.row.cell 0
              have r1 := hZ.row.cell 1
              simp only [List.getElem?_toArray, List.getElem?_cons_succ, List.getElem?_cons_zero] at r0 r1
              have hdd : ∀ W, Below WZ.heap.size WZ W → Dead (.pointer none) W := fun W hb => (hZ.new hb).dead (.inl rfl)
              have h26 := at_dead (hdd WZ (Below.refl _ _)) 0
              have h27 := start_dead (hdd WZ (Below.refl _ _)) 0
              have h16 := level_dead (hdd WZ (Below.refl _ _)) 1
              replace h26 := Lib.hid h26
              replace h27 := Lib.hid h27
              replace h16 := Lib.hid h16
              replace hdd := Lib.hid hdd
              go_wp2_with (first
                | (go_at_call 26; (with_reducible refine h26.out.mono ?_); rintro e wx ⟨rfl, hww⟩; cases hww; clear h26)
                | (go_at_call 27; (with_reducible refine h27.out.mono ?_); rintro e wx ⟨rfl, hww⟩; cases hww; clear h27)
                | (go_at_call 16; (with_reducible refine h16.out.mono ?_); rintro e Y1 ⟨rfl, hY1⟩; clear h16; have h14 := reason_dead (hdd.out _ hY1) 1; replace h14 := Lib.hid h14)
                | (go_at_call 14; (with_reducible refine h14.out.mono ?_); rintro e Y2 ⟨rfl, hY2⟩; clear h14; have h24 := place_dead (hdd.out _ (below_and hY1 hY2)) 1; replace h24 := Lib.hid h24)
                | (go_at_call 24; (with_reducible refine h24.out.mono ?_); rintro e Y3 ⟨rfl, hY3⟩; clear h24; have hY := below_and (below_and hY1 hY2) hY3; have hZ3 := hZ.new hY; have h28 := lits_dead (hdd.out _ hY); replace h28 := Lib.hid h28; clear hY hdd r0 r1)
                | (go_at_call 28; (with_reducible refine h28.out.mono ?_); rintro e Y4 ⟨rfl, hww⟩; cases hww; clear h28))
              clear hZ hY1 hY2 hY3
              have hBx : Below Y3.heap.size Y3 ((Y3.alloc (.cells #[.pointer none] 23)).alloc (.cells #[.int .i64 0] 3)) := ((Below.refl _ _).alloc (Nat.le_refl _) _).alloc (by simp) _
              have hZ := hZ3.new hBx
              have hbt := (Blk.new Y3 23 #[.pointer none]).alloc (.cells #[.int .i64 0] 3)
              have hbf := Blk.new (Y3.alloc (.cells #[.pointer none] 23)) 3 #[.int .i64 0]
              rw [World.size_alloc] at hbf
              clear hZ3 hBx
              generalize (Y3.alloc (.cells #[.pointer none] 23)).alloc (.cells #[.int .i64 0] 3) = WR at *
              generalize Y3.heap.size = Bt at *
              generalize hBf : Bt + 1 = Bf at *
              clear hBf
              clear WZ Y1 Y2 Y3
              have hsW := hZ.below.size
              have hmW := hZ.marks
              rename_i hcont
              replace hcont := Lib.hid hcont
              refine (wpIn_wide (n := m)).1 ?_
              refine wpIn_range_join rfl (enters_of Try.func40 (by kernel_rfl) rfl) (seq40_dead (.pointer none) Bf Bt) (fun _ => rfl)
                (fun fp _ W => fp = [] ∧ ZI w1 S z [] W ∧ Blk W Bt 23 #[.pointer none] ∧ Blk W Bf 3 #[.int .i64 0]) (fun _ _ => False)
                (fun fp => ownFrom_of fun x W W' kk hI => ⟨hI.1, hI.2.1.ck hmW kk hsW (Nat.le_refl _), hI.2.2.1.ck kk, hI.2.2.2.ck kk⟩) (ownFrom_of fun _ _ _ kk h => h) (fun fp pre W hI => ⟨hI.2.2.2, hI.2.2.1, hI.2.1.dead (.inl rfl)⟩) [] (by simp) ⟨rfl, hZ, hbt, hbf⟩
                (fun _ _ _ _ _ => False) (fun _ _ _ => ownFrom_of fun _ _ _ _ h => h) (fun _ _ _ _ _ _ _ _ hX _ => hX.elim) 8 (fun _ _ h => h) (fun _ _ _ _ _ _ _ _ hA => hA.elim) (ZI w1 S z []) (fun fp xs W _ hI => hI.2.1) (fun xs W l o o' _ _ _ h => h) (fun _ _ h => h.elim) ?finA0
              case finA0 =>
                intro Da0 WS hDa0 hG hDm
                refine hcont.out _ _ ?_
                clear hcont
                dsimp only
                have hGd : ZI w1 S z ({ target := .collected Da0, args := #[] } :: []) WS := ⟨hG.below, hG.row, hG.dz, hG.marks.push (by omega) hDm (fun D' hm => by have := (hmW.lt hm).1; omega)⟩
                clear hZ hbt hbf hsW hmW hG hDa0 hDm
                clear WR
                have h29 := down_dead (hGd.dead (p := .pointer none) (.inl rfl))
                replace h29 := Lib.hid h29
                go_wp2_with (go_at_call 29; (with_reducible refine h29.out.mono ?_); rintro e Y4 ⟨rfl, hww⟩; cases hww; clear h29)
                have hBx : Below WS.heap.size WS (WS.alloc (.cells #[.pointer none] 23)) := (Below.refl _ _).alloc (Nat.le_refl _) _
                have hZ := hGd.new hBx
                have hbt := Blk.new WS 23 #[.pointer none]
                clear hGd hBx
                generalize WS.alloc (.cells #[.pointer none] 23) = WR at *
                generalize WS.heap.size = Bt at *
                clear WS
                have hsW := hZ.below.size
                have hmW := hZ.marks
                rename_i hcont
                replace hcont := Lib.hid hcont
                refine (wpIn_wide (n := m)).1 ?_
                refine wpIn_range_join rfl (enters_of Try.func41 (by kernel_rfl) rfl) (seq41_dead (.pointer none) Bt) (fun _ => rfl)
                  (fun fp _ W => fp = [] ∧ ZI w1 S z ({ target := .collected Da0, args := #[] } :: []) W ∧ Blk W Bt 23 #[.pointer none]) (fun _ _ => False)
                  (fun fp => ownFrom_of fun x W W' kk hI => ⟨hI.1, hI.2.1.ck hmW kk hsW (Nat.le_refl _), hI.2.2.ck kk⟩) (ownFrom_of fun _ _ _ kk h => h) (fun fp pre W hI => ⟨hI.2.2, hI.2.1.dead (.inl rfl)⟩) [] (by simp) ⟨rfl, hZ, hbt⟩
                  (fun _ _ _ _ _ => False) (fun _ _ _ => ownFrom_of fun _ _ _ _ h => h) (fun _ _ _ _ _ _ _ _ hX _ => hX.elim) 10 (fun _ _ h => h) (fun _ _ _ _ _ _ _ _ hA => hA.elim) (ZI w1 S z ({ target := .collected Da0, args := #[] } :: [])) (fun fp xs W _ hI => hI.2.1) (fun xs W l o o' _ _ _ h => h) (fun _ _ h => h.elim) ?finB0
                case finB0 =>
                  intro Db0 WZ hDb0 hG hDm
                  refine hcont.out _ _ ?_
                  clear hcont
                  dsimp only
                  have hGd : ZI w1 S z ({ target := .collected Db0, args := #[] } :: { target := .collected Da0, args := #[] } :: []) WZ := ⟨hG.below, hG.row, hG.dz, hG.marks.push (by omega) hDm (fun D' hm => by have := (hmW.lt hm).1; omega)⟩
                  clear hZ hbt hsW hmW hG hDb0 hDm
                  clear WR
                  have hdd := hGd.dead (p := .pointer none) (.inl rfl)
                  have h13 := assign_dead hdd 1 (-1)
                  have h12 := push_dead hdd
                  have h15 := back_dead hdd 0
                  replace h13 := Lib.hid h13
                  replace h12 := Lib.hid h12
                  replace h15 := Lib.hid h15
                  go_wp2_with (first
                    | (go_at_call 13; (with_reducible refine h13.out.mono ?_); rintro e wx ⟨rfl, hww⟩; cases hww; clear h13)
                    | (go_at_call 12; (with_reducible refine h12.out.mono ?_); rintro e wx ⟨rfl, hww⟩; cases hww; clear h12)
                    | (go_at_call 15; (with_reducible refine h15.out.mono ?_); rintro e Y5 ⟨rfl, hY5⟩; clear h15; have hd5 := hdd.new hY5; have h17 := value_dead hd5 1; have h20 := now_dead hd5; have h23 := len_dead hd5; have h32 := vars_dead hd5; replace h17 := Lib.hid h17; replace h20 := Lib.hid h20; replace h23 := Lib.hid h23; replace h32 := Lib.hid h32)
                    | (go_at_call 17; (with_reducible refine h17.out.mono ?_); rintro e wx ⟨rfl, hww⟩; cases hww; clear h17)
                    | (go_at_call 20; (with_reducible refine h20.out.mono ?_); rintro e wx ⟨rfl, hww⟩; cases hww; clear h20)
                    | (go_at_call 23; (with_reducible refine h23.out.mono ?_); rintro e wx ⟨rfl, hww⟩; cases hww; clear h23)
                    | (go_at_call 32; (with_reducible refine h32.out.mono ?_); rintro e wx ⟨rfl, hww⟩; cases hww; clear h32)
                    | (refine ⟨trivial, ?_⟩))
                  have hZ := hGd.new hY5
                  clear hdd hd5 hGd hY5
                  clear WZ
                  obtain ⟨WZ, hWZ⟩ : ∃ WZ, WZ = Y5 := ⟨_, rfl⟩
                  subst hWZ
                  rw [roundsIn_succ]
                  refine wpIn_wide.2 ?_
                  have r0 := hZ.row.cell 0
                  have r1 := hZ.row.cell 1
                  simp only [List.getElem?_toArray, List.getElem?_cons_succ, List.getElem?_cons_zero] at r0 r1
                  have hdd : ∀ W, Below WZ.heap.size WZ W → Dead (.pointer (some ⟨z, 0, none⟩)) W := fun W hb => (hZ.new hb).dead (.inr rfl)
                  have h26 := at_dead (hdd WZ (Below.refl _ _)) 0
                  have h27 := start_dead (hdd WZ (Below.refl _ _)) 0
                  have h16 := level_dead (hdd WZ (Below.refl _ _)) 1
                  replace h26 := Lib.hid h26
                  replace h27 := Lib.hid h27
                  replace h16 := Lib.hid h16
                  replace hdd := Lib.hid hdd
                  go_wp2_with (first
                    | (go_at_call 26; (with_reducible refine h26.out.mono ?_); rintro e wx ⟨rfl, hww⟩; cases hww; clear h26)
                    | (go_at_call 27; (with_reducible refine h27.out.mono ?_); rintro e wx ⟨rfl, hww⟩; cases hww; clear h27)
                    | (go_at_call 16; (with_reducible refine h16.out.mono ?_); rintro e Y1 ⟨rfl, hY1⟩; clear h16; have h14 := reason_dead (hdd.out _ hY1) 1; replace h14 := Lib.hid h14)
                    | (go_at_call 14; (with_reducible refine h14.out.mono ?_); rintro e Y2 ⟨rfl, hY2⟩; clear h14; have h24 := place_dead (hdd.out _ (below_and hY1 hY2)) 1; replace h24 := Lib.hid h24)
                    | (go_at_call 24; (with_reducible refine h24.out.mono ?_); rintro e Y3 ⟨rfl, hY3⟩; clear h24; have hY := below_and (below_and hY1 hY2) hY3; have hZ3 := hZ.new hY; have h28 := lits_dead (hdd.out _ hY); replace h28 := Lib.hid h28; clear hY hdd r0 r1)
                    | (go_at_call 28; (with_reducible refine h28.out.mono ?_); rintro e Y4 ⟨rfl, hww⟩; cases hww; clear h28))
                  clear hZ hY1 hY2 hY3
                  have hBx : Below Y3.heap.size Y3 ((Y3.alloc (.cells #[.pointer (some ⟨z, 0, none⟩)] 23)).alloc (.cells #[.int .i64 0] 3)) := ((Below.refl _ _).alloc (Nat.le_refl _) _).alloc (by simp) _
                  have hZ := hZ3.new hBx
                  have hbt := (Blk.new Y3 23 #[.pointer (some ⟨z, 0, none⟩)]).alloc (.cells #[.int .i64 0] 3)
                  have hbf := Blk.new (Y3.alloc (.cells #[.pointer (some ⟨z, 0, none⟩)] 23)) 3 #[.int .i64 0]
                  rw [World.size_alloc] at hbf
                  clear hZ3 hBx
                  generalize (Y3.alloc (.cells #[.pointer (some ⟨z, 0, none⟩)] 23)).alloc (.cells #[.int .i64 0] 3) = WR at *
                  generalize Y3.heap.size = Bt at *
                  generalize hBf : Bt + 1 = Bf at *
                  clear hBf
                  clear WZ Y1 Y2 Y3
                  have hsW := hZ.below.size
                  have hmW := hZ.marks
                  rename_i hcont
                  replace hcont := Lib.hid hcont
                  refine (wpIn_wide (n := m)).1 ?_
                  refine wpIn_range_join rfl (enters_of Try.func40 (by kernel_rfl) rfl) (seq40_dead (.pointer (some ⟨z, 0, none⟩)) Bf Bt) (fun _ => rfl)
                    (fun fp _ W => fp = [] ∧ ZI w1 S z [{ target := .collected Db0, args := #[] }, { target := .collected Da0, args := #[] }] W ∧ Blk W Bt 23 #[.pointer (some ⟨z, 0, none⟩)] ∧ Blk W Bf 3 #[.int .i64 0]) (fun _ _ => False)
                    (fun fp => ownFrom_of fun x W W' kk hI => ⟨hI.1, hI.2.1.ck hmW kk hsW (Nat.le_refl _), hI.2.2.1.ck kk, hI.2.2.2.ck kk⟩) (ownFrom_of fun _ _ _ kk h => h) (fun fp pre W hI => ⟨hI.2.2.2, hI.2.2.1, hI.2.1.dead (.inr rfl)⟩) [] (by simp) ⟨rfl, hZ, hbt, hbf⟩
                    (fun _ _ _ _ _ => False) (fun _ _ _ => ownFrom_of fun _ _ _ _ h => h) (fun _ _ _ _ _ _ _ _ hX _ => hX.elim) 8 (fun _ _ h => h) (fun _ _ _ _ _ _ _ _ hA => hA.elim) (ZI w1 S z [{ target := .collected Db0, args := #[] }, { target := .collected Da0, args := #[] }]) (fun fp xs W _ hI => hI.2.1) (fun xs W l o o' _ _ _ h => h) (fun _ _ h => h.elim) ?finA1
                  case finA1 =>
                    intro Da1 WS hDa1 hG hDm
                    refine hcont.out _ _ ?_
                    clear hcont
                    dsimp only
                    have hGd : ZI w1 S z ({ target := .collected Da1, args := #[] } :: [{ target := .collected Db0, args := #[] }, { target := .collected Da0, args := #[] }]) WS := ⟨hG.below, hG.row, hG.dz, hG.marks.push (by omega) hDm (fun D' hm => by have := (hmW.lt hm).1; omega)⟩
                    clear hZ hbt hbf hsW hmW hG hDa1 hDm
                    clear WR
                    have h29 := down_dead (hGd.dead (p := .pointer (some ⟨z, 0, none⟩)) (.inr rfl))
                    replace h29 := Lib.hid h29
                    go_wp2_with (go_at_call 29; (with_reducible refine h29.out.mono ?_); rintro e Y4 ⟨rfl, hww⟩; cases hww; clear h29)
                    have hBx : Below WS.heap.size WS (WS.alloc (.cells #[.pointer (some ⟨z, 0, none⟩)] 23)) := (Below.refl _ _).alloc (Nat.le_refl _) _
                    have hZ := hGd.new hBx
                    have hbt := Blk.new WS 23 #[.pointer (some ⟨z, 0, none⟩)]
                    clear hGd hBx
                    generalize WS.alloc (.cells #[.pointer (some ⟨z, 0, none⟩)] 23) = WR at *
                    generalize WS.heap.size = Bt at *
                    clear WS
                    have hsW := hZ.below.size
                    have hmW := hZ.marks
                    rename_i hcont
                    replace hcont := Lib.hid hcont
                    refine (wpIn_wide (n := m)).1 ?_
                    refine wpIn_range_join rfl (enters_of Try.func41 (by kernel_rfl) rfl) (seq41_dead (.pointer (some ⟨z, 0, none⟩)) Bt) (fun _ => rfl)
                      (fun fp _ W => fp = [] ∧ ZI w1 S z ({ target := .collected Da1, args := #[] } :: [{ target := .collected Db0, args := #[] }, { target := .collected Da0, args := #[] }]) W ∧ Blk W Bt 23 #[.pointer (some ⟨z, 0, none⟩)]) (fun _ _ => False)
                      (fun fp => ownFrom_of fun x W W' kk hI => ⟨hI.1, hI.2.1.ck hmW kk hsW (Nat.le_refl _), hI.2.2.ck kk⟩) (ownFrom_of fun _ _ _ kk h => h) (fun fp pre W hI => ⟨hI.2.2, hI.2.1.dead (.inr rfl)⟩) [] (by simp) ⟨rfl, hZ, hbt⟩
                      (fun _ _ _ _ _ => False) (fun _ _ _ => ownFrom_of fun _ _ _ _ h => h) (fun _ _ _ _ _ _ _ _ hX _ => hX.elim) 10 (fun _ _ h => h) (fun _ _ _ _ _ _ _ _ hA => hA.elim) (ZI w1 S z ({ target := .collected Da1, args := #[] } :: [{ target := .collected Db0, args := #[] }, { target := .collected Da0, args := #[] }])) (fun fp xs W _ hI => hI.2.1) (fun xs W l o o' _ _ _ h => h) (fun _ _ h => h.elim) ?finB1
                    case finB1 =>
                      intro Db1 WZ hDb1 hG hDm
                      refine hcont.out _ _ ?_
                      clear hcont
                      dsimp only
                      have hGd : ZI w1 S z ({ target := .collected Db1, args := #[] } :: { target := .collected Da1, args := #[] } :: [{ target := .collected Db0, args := #[] }, { target := .collected Da0, args := #[] }]) WZ := ⟨hG.below, hG.row, hG.dz, hG.marks.push (by omega) hDm (fun D' hm => by have := (hmW.lt hm).1; omega)⟩
                      clear hZ hbt hsW hmW hG hDb1 hDm
                      clear WR
                      have hdd := hGd.dead (p := .pointer (some ⟨z, 0, none⟩)) (.inr rfl)
                      have h13 := assign_dead hdd 1 (-1)
                      have h12 := push_dead hdd
                      have h15 := back_dead hdd 0
                      replace h13 := Lib.hid h13
                      replace h12 := Lib.hid h12
                      replace h15 := Lib.hid h15
                      go_wp2_with (first
                        | (go_at_call 13; (with_reducible refine h13.out.mono ?_); rintro e wx ⟨rfl, hww⟩; cases hww; clear h13)
                        | (go_at_call 12; (with_reducible refine h12.out.mono ?_); rintro e wx ⟨rfl, hww⟩; cases hww; clear h12)
                        | (go_at_call 15; (with_reducible refine h15.out.mono ?_); rintro e Y5 ⟨rfl, hY5⟩; clear h15; have hd5 := hdd.new hY5; have h17 := value_dead hd5 1; have h20 := now_dead hd5; have h23 := len_dead hd5; have h32 := vars_dead hd5; replace h17 := Lib.hid h17; replace h20 := Lib.hid h20; replace h23 := Lib.hid h23; replace h32 := Lib.hid h32)
                        | (go_at_call 17; (with_reducible refine h17.out.mono ?_); rintro e wx ⟨rfl, hww⟩; cases hww; clear h17)
                        | (go_at_call 20; (with_reducible refine h20.out.mono ?_); rintro e wx ⟨rfl, hww⟩; cases hww; clear h20)
                        | (go_at_call 23; (with_reducible refine h23.out.mono ?_); rintro e wx ⟨rfl, hww⟩; cases hww; clear h23)
                        | (go_at_call 32; (with_reducible refine h32.out.mono ?_); rintro e wx ⟨rfl, hww⟩; cases hww; clear h32)
                        | (refine ⟨trivial, ?_⟩))
                      have hZ := hGd.new hY5
                      clear hdd hd5 hGd hY5
                      clear WZ
                      obtain ⟨WZ, hWZ⟩ : ∃ WZ, WZ = Y5 := ⟨_, rfl⟩
                      subst hWZ
                      rw [roundsIn_succ]
                      refine wpIn_wide.2 ?_
                      have hrc := hrw1.below hZ.below hrw1.lt
                      go_wp2_with (go_at_call 18; refine (awake_ok _).mono ?_; rintro e W11 ⟨rfl, hB11⟩; have hZ11 := hZ.new hB11; have r11 := hrw1.below hZ11.below hrw1.lt; have c11 := r11.cell 0; have f11 := r11.frozen 0; simp only [List.getElem?_toArray, List.getElem?_cons_zero] at c11; have hlt11 := r11.lt)
                      have hm12 := hZ11.marks.only (fp := [w.heap.size]) ((Only.refl [w.heap.size] W11).setCell (p := ⟨w.heap.size, 0, none⟩) (.inl (by simp)) (.bool true)) (fun i o hi ho => by rw [List.mem_singleton] at hi; subst hi; exact blk_cells r11 ho)
                      have hb12 := (hbw1.trans (hZ11.below.mono hbw1.size)).setCell (p := ⟨w.heap.size, 0, none⟩) (Nat.le_refl _) (.bool true)
                      have hr12 := r11.set_ 0 (.bool true)
                      refine leaves_marks hm12 (fun W12 k12 => ⟨.bool true, ?_, rfl, below_ck hb12 (Nat.le_refl _) k12 hbw1.size⟩)
                      have c12 := (hr12.ck k12).cell 0
                      simp at c12
                      simp [results, Try.results8, go_sem, c12]
theorem law_small (w : World) : Calls Try.prog 8 #[] w fun e w' => e = .returned (.bool true) ∧ Below w.heap.size w w' := callsIn_wide.1 (small_in 3 (by omega) w)
end Go.Proofs.Ytkedepkhcbhcdaa
