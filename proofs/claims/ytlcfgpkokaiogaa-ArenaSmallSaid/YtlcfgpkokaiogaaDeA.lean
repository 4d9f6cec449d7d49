/- Arenas: arenas that are none. -/
import Derived.Test.YtlcfgpkokaiogaaRfG
namespace Go.Proofs.Ytlcfgpkokaiogaa
open Go Go.RowKit Go.Shelf
set_option linter.unusedVariables false
set_option linter.unusedSimpArgs false
set_option maxHeartbeats 4000000
/-- A pointer to an arena that is none. -/
def Dead (p : Value) (W : World) : Prop := p = .pointer none ∨ ∃ z, p = .pointer (some ⟨z, 0, none⟩) ∧ Blk W z 39 #[.slice none 0 0, .slice none 0 0, .int .i64 0, .int .i64 0, .int .i64 0, .bool false]
theorem Dead.new {p : Value} {W W' : World} (h : Dead p W) (hb : Below W.heap.size W W') : Dead p W' := by
  rcases h with h | ⟨z, h1, h2⟩
  · exact .inl h
  · exact .inr ⟨z, h1, h2.below hb h2.lt⟩
theorem Dead.ck {p : Value} {W W' : World} {B : Nat} (h : Dead p W) (k : CellsKept B W W') : Dead p W' := by
  rcases h with h | ⟨z, h1, h2⟩
  · exact .inl h
  · exact .inr ⟨z, h1, h2.ck k⟩
section
variable {p : Value} {W : World}
theorem is_dead (h : Dead p W) : Calls Try.prog 35 #[p] W fun e w' => e = .returned (.bool false) ∧ W = w' := by
  rcases h with rfl | ⟨z, rfl, hb⟩
  · go_enter Try.func35, Try.ntmps35
    go_wp2
    go_ret
    exact ⟨rfl, rfl⟩
  · have c5 := hb.cell 5
    simp only [List.getElem?_toArray, List.getElem?_cons_succ, List.getElem?_cons_zero] at c5
    go_enter Try.func35, Try.ntmps35
    go_wp2
    go_ret
    exact ⟨rfl, rfl⟩
theorem count_dead (h : Dead p W) : Calls Try.prog 22 #[p] W fun e w' => e = .returned (.int .i64 0) ∧ W = w' := by
  have hi := is_dead h
  replace hi := Lib.hid hi
  clear h
  go_enter Try.func22, Try.ntmps22
  go_wp2_with (go_at_call 35; (with_reducible refine hi.out.mono ?_); rintro e w' ⟨rfl, rfl⟩)
  go_ret
  exact ⟨rfl, rfl⟩
theorem used_dead (h : Dead p W) : Calls Try.prog 16 #[p] W fun e w' => e = .returned (.int .i64 0) ∧ W = w' := by
  have hi := is_dead h
  replace hi := Lib.hid hi
  clear h
  go_enter Try.func16, Try.ntmps16
  go_wp2_with (go_at_call 35; (with_reducible refine hi.out.mono ?_); rintro e w' ⟨rfl, rfl⟩)
  go_ret
  exact ⟨rfl, rfl⟩
theorem held_dead (h : Dead p W) : Calls Try.prog 23 #[p] W fun e w' => e = .returned (.int .i64 0) ∧ W = w' := by
  have hi := is_dead h
  replace hi := Lib.hid hi
  clear h
  go_enter Try.func23, Try.ntmps23
  go_wp2_with (go_at_call 35; (with_reducible refine hi.out.mono ?_); rintro e w' ⟨rfl, rfl⟩)
  go_ret
  exact ⟨rfl, rfl⟩
theorem last_dead (h : Dead p W) : Calls Try.prog 24 #[p] W fun e w' => e = .returned (.int .i64 0) ∧ W = w' := by
  have hi := is_dead h
  replace hi := Lib.hid hi
  clear h
  go_enter Try.func24, Try.ntmps24
  go_wp2_with (go_at_call 35; (with_reducible refine hi.out.mono ?_); rintro e w' ⟨rfl, rfl⟩)
  go_ret
  exact ⟨rfl, rfl⟩
theorem has_dead (h : Dead p W) (id : Int) : Calls Try.prog 21 #[p, .int .i64 id] W fun e w' => e = .returned (.bool false) ∧ W = w' := by
  have hi := is_dead h
  replace hi := Lib.hid hi
  clear h
  go_enter Try.func21, Try.ntmps21
  go_wp2_with (go_at_call 35; (with_reducible refine hi.out.mono ?_); rintro e w' ⟨rfl, rfl⟩)
  go_ret
  exact ⟨rfl, rfl⟩
theorem del_dead (h : Dead p W) (id : Int) : Calls Try.prog 15 #[p, .int .i64 id] W fun e w' => e = .returned (.int .i64 1) ∧ W = w' := by
  have hi := is_dead h
  replace hi := Lib.hid hi
  clear h
  go_enter Try.func15, Try.ntmps15
  go_wp2_with (go_at_call 35; (with_reducible refine hi.out.mono ?_); rintro e w' ⟨rfl, rfl⟩)
  go_ret
  exact ⟨rfl, rfl⟩
theorem add_dead (h : Dead p W) (id : Int) : Calls Try.prog 14 #[p, .int .i64 id, .slice none 0 0] W fun e w' => e = .returned (.int .i64 1) ∧ W = w' := by
  have hi := is_dead h
  replace hi := Lib.hid hi
  clear h
  go_enter Try.func14, Try.ntmps14
  go_wp2_with (go_at_call 35; (with_reducible refine hi.out.mono ?_); rintro e w' ⟨rfl, rfl⟩)
  go_ret
  exact ⟨rfl, rfl⟩
set_option maxRecDepth 100000 in
theorem entry_dead (h : Dead p W) (id : Int) : Calls Try.prog 40 #[p, .int .i64 id] W fun r w' => r = .returned (.tuple #[.agg #[.int .i64 0, .int .i64 0, .int .i64 0, .bool false], .int .i64 1]) ∧ Below W.heap.size W w' := by
  have hA := (Below.refl _ W).alloc (Nat.le_refl _) (.cells #[.int .i64 0, .int .i64 0, .int .i64 0, .bool false] 76)
  have hi := is_dead (h.new hA)
  have hb5 := Blk.new W 76 #[.int .i64 0, .int .i64 0, .int .i64 0, .bool false]
  clear h
  replace hi := Lib.hid hi
  go_enter Try.func40, Try.ntmps40
  go_upto_region 1 with (fail)
  generalize W.alloc (.cells #[.int .i64 0, .int .i64 0, .int .i64 0, .bool false] 76) = W1 at *
  have x0 := hb5.cell 0
  have x1 := hb5.cell 1
  have x2 := hb5.cell 2
  have x3 := hb5.cell 3
  have z0 := hb5.frozen 0
  have z1 := hb5.frozen 1
  have z2 := hb5.frozen 2
  have z3 := hb5.frozen 3
  simp only [List.getElem?_toArray, List.getElem?_cons_zero, List.getElem?_cons_succ] at x0 x1 x2 x3
  go_wp2_with (go_at_call 35; refine hi.out.mono ?_; rintro e w' ⟨rfl, rfl⟩)
  have hb9 := (((hb5.set_ 0 (.int .i64 0)).set_ 1 (.int .i64 0)).set_ 2 (.int .i64 0)).set_ 3 (.bool false)
  simp only [List.setIfInBounds_toArray, List.set_cons_zero, List.set_cons_succ] at hb9
  refine bodyPost_ret (results_cell_tmp_row rfl _ _ W.heap.size 76 _ (0, 0) _ rfl hb9 Try.underlying76 rfl (by kernel_rfl)) rfl ⟨rfl, ?_⟩
  exact (((hA.setCell (p := ⟨W.heap.size, 0, none⟩) (Nat.le_refl _) _).setCell (p := ⟨W.heap.size, 1, none⟩) (Nat.le_refl _) _).setCell (p := ⟨W.heap.size, 2, none⟩) (Nat.le_refl _) _).setCell (p := ⟨W.heap.size, 3, none⟩) (Nat.le_refl _) _
theorem lit_dead (h : Dead p W) (id i : Int) : Calls Try.prog 19 #[p, .int .i64 id, .int .i64 i] W fun r w' => r = .returned (.tuple #[.int .i64 0, .int .i64 1]) ∧ Below W.heap.size W w' := by
  have he := entry_dead h id
  replace he := Lib.hid he
  clear h
  go_enter Try.func19, Try.ntmps19
  go_wp2_with (go_at_call 40; (with_reducible refine he.out.mono ?_); rintro e w' ⟨rfl, hB⟩; have hb5 := hB.alloc hB.size (.cells #[.int .i64 0, .int .i64 0, .int .i64 0, .bool false] 76))
  go_ret2
  exact ⟨rfl, hb5⟩
theorem get_dead (h : Dead p W) (id : Int) : Calls Try.prog 17 #[p, .int .i64 id] W fun r w' => r = .returned (.tuple #[.slice none 0 0, .int .i64 1]) ∧ Below W.heap.size W w' := by
  have he := entry_dead h id
  replace he := Lib.hid he
  clear h
  go_enter Try.func17, Try.ntmps17
  go_wp2_with (go_at_call 40; (with_reducible refine he.out.mono ?_); rintro e w' ⟨rfl, hB⟩; have hb5 := hB.alloc hB.size (.cells #[.int .i64 0, .int .i64 0, .int .i64 0, .bool false] 76))
  go_ret2
  exact ⟨rfl, hb5⟩
theorem len_dead (h : Dead p W) (id : Int) : Calls Try.prog 18 #[p, .int .i64 id] W fun r w' => r = .returned (.tuple #[.int .i64 0, .int .i64 1]) ∧ Below W.heap.size W w' := by
  have he := entry_dead h id
  have hsp := spanlen_any 0 0 (by omega) (by omega)
  rw [show (0 : Int) - 0 = 0 from rfl] at hsp
  replace he := Lib.hid he
  replace hsp := Lib.hid hsp
  clear h
  go_enter Try.func18, Try.ntmps18
  go_wp2_with (first
    | (go_at_call 40; (with_reducible refine he.out.mono ?_); rintro e w' ⟨rfl, hB⟩; have hb5 := hB.alloc hB.size (.cells #[.int .i64 0, .int .i64 0, .int .i64 0, .bool false] 76))
    | (go_at_call 38; refine (hsp.out _).mono ?_; rintro r w9 ⟨rfl, hB9⟩))
  go_ret2
  exact ⟨rfl, hb5.trans (hB9.mono hb5.size)⟩
theorem all_dead (h : Dead p W) : Calls Try.prog 20 #[p] W fun e w' => e = .returned (.func (.func 42) #[] #[.pointer (some ⟨W.heap.size, 0, none⟩)]) ∧ W.alloc (.cells #[p] 31) = w' := by
  rcases h with rfl | ⟨z, rfl, _⟩
  · go_enter Try.func20, Try.ntmps20
    go_wp2
    go_ret
    exact ⟨rfl, rfl⟩
  · go_enter Try.func20, Try.ntmps20
    go_wp2
    go_ret
    exact ⟨rfl, rfl⟩
end
/-- What the iterator reads of an arena that is none. -/
def RdN (Ba : Nat) (p : Value) (W : World) : Prop := Blk W Ba 31 #[p] ∧ Dead p W
attribute [local go_sem] Oper.semAt_some
set_option maxRecDepth 100000 in
theorem seq42_dead (p : Value) (Ba : Nat) :
    Seq2 Try.prog 42 #[.pointer (some ⟨Ba, 0, none⟩)] encC (fun _ W => RdN Ba p W) (fun _ _ _ _ => False) (fun xs W => xs = []) := by
  intro m l J Jx W fp hJ hJx hRd hfp hY h0
  obtain ⟨hbt, hd⟩ := hRd _ _ _ h0
  have b1 := hbt.cell 0
  simp only [List.getElem?_toArray, List.getElem?_cons_zero] at b1
  have hi := is_dead hd
  clear hbt hY
  have key : CallsIn Fence.wide m Try.prog 42 (#[.func (.yield l) #[] #[]] ++ #[.pointer (some ⟨Ba, 0, none⟩)]) W fun e W' => (∃ v, e = .returned v) ∧ ((∃ fp xs, xs = [] ∧ J fp xs W') ∨ (∃ pre, Jx pre W')) := by
    rcases hd with rfl | ⟨z, rfl, _⟩
    all_goals
      replace hi := Lib.hid hi
      refine callsIn_of_wp Try.func42 rfl trivial ?_ rfl
      simp only [Try.ntmps42, List.size_toArray, List.length_cons, List.length_nil, Nat.reduceAdd, Nat.reduceSub, Array.replicate_succ, Array.replicate_zero, List.push_toArray, List.append_toArray, List.nil_append, List.cons_append]
      gi_wp2
      refine wpIn_loop_once ?_
      gi_wp2_with (refine ⟨trivial, no_depth, ?_⟩; gi_at_call 35; refine (callsIn_wide.2 hi.out).mono ?_; rintro e w' ⟨rfl, rfl⟩)
      go_end0
      exact ⟨⟨_, rfl⟩, .inl ⟨fp, [], rfl, h0⟩⟩
  exact key
end Go.Proofs.Ytlcfgpkokaiogaa
