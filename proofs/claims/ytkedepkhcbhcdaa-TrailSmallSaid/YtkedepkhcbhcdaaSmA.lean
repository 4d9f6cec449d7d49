/- Trails: trails that are none. -/
import Derived.Test.YtkedepkhcbhcdaaRefP
namespace Go.Proofs.Ytkedepkhcbhcdaa
open Go Go.RowKit Go.Shelf
set_option linter.unusedVariables false
set_option linter.unusedSimpArgs false
set_option maxHeartbeats 4000000
/-- A pointer to a trail that is none. -/
def Dead (p : Value) (W : World) : Prop := p = .pointer none ∨ ∃ z, p = .pointer (some ⟨z, 0, none⟩) ∧ Blk W z 63 #[.slice none 0 0, .slice none 0 0, .slice none 0 0, .bool false]
theorem Dead.new {p : Value} {W W' : World} (h : Dead p W) (hb : Below W.heap.size W W') : Dead p W' := by
  rcases h with h | ⟨z, h1, h2⟩
  · exact .inl h
  · exact .inr ⟨z, h1, h2.below hb h2.lt⟩
theorem Dead.ck {p : Value} {W W' : World} {B : Nat} (h : Dead p W) (k : CellsKept B W W') : Dead p W' := by
  rcases h with h | ⟨z, h1, h2⟩
  · exact .inl h
  · exact .inr ⟨z, h1, h2.ck k⟩
section
variable {p : Value} {W : World}
theorem is_dead (h : Dead p W) : Calls Try.prog 34 #[p] W fun e w' => e = .returned (.bool false) ∧ W = w' := by
  rcases h with rfl | ⟨z, rfl, hb⟩
  · go_enter Try.func34, Try.ntmps34
    go_wp2
    go_ret
    exact ⟨rfl, rfl⟩
  · have c3 := hb.cell 3
    simp only [List.getElem?_toArray, List.getElem?_cons_succ, List.getElem?_cons_zero] at c3
    go_enter Try.func34, Try.ntmps34
    go_wp2
    go_ret
    exact ⟨rfl, rfl⟩
theorem state_dead (h : Dead p W) (v : Int) : Calls Try.prog 35 #[p, .int .i64 v] W fun e w' => e = .returned (.tuple #[.pointer none, .bool false]) ∧ W = w' := by
  have hi := is_dead h
  replace hi := Lib.hid hi
  clear h
  go_enter Try.func35, Try.ntmps35
  go_wp2_with (go_at_call 34; (with_reducible refine hi.out.mono ?_); rintro e w' ⟨rfl, rfl⟩)
  go_ret2
  exact ⟨rfl, rfl⟩
theorem why_dead (h : Dead p W) (v : Int) : Calls Try.prog 37 #[p, .int .i64 v] W fun e w' => e = .returned (.tuple #[.agg #[.int .i64 0, .int .i64 0, .int .i64 0], .bool false]) ∧ Below W.heap.size W w' := by
  have hA := (Below.refl _ W).alloc (Nat.le_refl _) (.cells #[.int .i64 0, .int .i64 0, .int .i64 0] 71)
  have hi := state_dead (h.new hA) v
  replace hi := Lib.hid hi
  clear h
  go_enter Try.func37, Try.ntmps37
  go_wp2_with (go_at_call 35; (with_reducible refine hi.out.mono ?_); rintro e w' ⟨rfl, rfl⟩)
  exact bodyPost_ret (v := .tuple #[.agg #[.int .i64 0, .int .i64 0, .int .i64 0], .bool false]) (by simp [results, Try.results37, go_sem]) rfl ⟨rfl, hA⟩
theorem level_dead (h : Dead p W) (v : Int) : Calls Try.prog 16 #[p, .int .i64 v] W fun e w' => e = .returned (.tuple #[.int .i64 0, .bool false]) ∧ Below W.heap.size W w' := by
  have hi := why_dead h v
  replace hi := Lib.hid hi
  clear h
  go_enter Try.func16, Try.ntmps16
  go_wp2_with (go_at_call 37; (with_reducible refine hi.out.mono ?_); rintro e w' ⟨rfl, hB⟩)
  go_ret2
  exact ⟨rfl, hB.alloc hB.size _⟩
theorem reason_dead (h : Dead p W) (v : Int) : Calls Try.prog 14 #[p, .int .i64 v] W fun e w' => e = .returned (.tuple #[.int .i64 0, .bool false]) ∧ Below W.heap.size W w' := by
  have hi := why_dead h v
  replace hi := Lib.hid hi
  clear h
  go_enter Try.func14, Try.ntmps14
  go_wp2_with (go_at_call 37; (with_reducible refine hi.out.mono ?_); rintro e w' ⟨rfl, hB⟩)
  go_ret2
  exact ⟨rfl, hB.alloc hB.size _⟩
theorem place_dead (h : Dead p W) (v : Int) : Calls Try.prog 24 #[p, .int .i64 v] W fun e w' => e = .returned (.tuple #[.int .i64 0, .bool false]) ∧ Below W.heap.size W w' := by
  have hi := why_dead h v
  replace hi := Lib.hid hi
  clear h
  go_enter Try.func24, Try.ntmps24
  go_wp2_with (go_at_call 37; (with_reducible refine hi.out.mono ?_); rintro e w' ⟨rfl, hB⟩)
  go_ret2
  exact ⟨rfl, hB.alloc hB.size _⟩
theorem value_dead (h : Dead p W) (l : Int) : Calls Try.prog 17 #[p, .int .i64 l] W fun e w' => e = .returned (.int .i64 0) ∧ W = w' := by
  have hv := var_any (w := W) l
  replace hv := Lib.hid hv
  have hi := fun x => state_dead h x
  replace hi := Lib.hid hi
  clear h
  go_enter Try.func17, Try.ntmps17
  go_wp2_with (first
    | (go_at_call 25; (with_reducible refine hv.out.mono ?_); rintro e w' ⟨rfl, rfl⟩)
    | (go_at_call 35; refine (hi.out _).mono ?_; rintro e w' ⟨rfl, rfl⟩))
  go_ret
  exact ⟨rfl, rfl⟩
theorem assign_dead (h : Dead p W) (l r : Int) : Calls Try.prog 13 #[p, .int .i64 l, .int .i64 r] W fun e w' => e = .returned (.int .i64 1) ∧ W = w' := by
  have hi := is_dead h
  replace hi := Lib.hid hi
  clear h
  go_enter Try.func13, Try.ntmps13
  go_wp2_with (go_at_call 34; (with_reducible refine hi.out.mono ?_); rintro e w' ⟨rfl, rfl⟩)
  go_ret
  exact ⟨rfl, rfl⟩
theorem push_dead (h : Dead p W) : Calls Try.prog 12 #[p] W fun e w' => e = .returned (.int .i64 1) ∧ W = w' := by
  have hi := is_dead h
  replace hi := Lib.hid hi
  clear h
  go_enter Try.func12, Try.ntmps12
  go_wp2_with (go_at_call 34; (with_reducible refine hi.out.mono ?_); rintro e w' ⟨rfl, rfl⟩)
  go_ret
  exact ⟨rfl, rfl⟩
theorem now_dead (h : Dead p W) : Calls Try.prog 20 #[p] W fun e w' => e = .returned (.int .i64 0) ∧ W = w' := by
  have hi := is_dead h
  replace hi := Lib.hid hi
  clear h
  go_enter Try.func20, Try.ntmps20
  go_wp2_with (go_at_call 34; (with_reducible refine hi.out.mono ?_); rintro e w' ⟨rfl, rfl⟩)
  go_ret
  exact ⟨rfl, rfl⟩
theorem len_dead (h : Dead p W) : Calls Try.prog 23 #[p] W fun e w' => e = .returned (.int .i64 0) ∧ W = w' := by
  have hi := is_dead h
  replace hi := Lib.hid hi
  clear h
  go_enter Try.func23, Try.ntmps23
  go_wp2_with (go_at_call 34; (with_reducible refine hi.out.mono ?_); rintro e w' ⟨rfl, rfl⟩)
  go_ret
  exact ⟨rfl, rfl⟩
theorem vars_dead (h : Dead p W) : Calls Try.prog 32 #[p] W fun e w' => e = .returned (.int .i64 0) ∧ W = w' := by
  have hi := is_dead h
  replace hi := Lib.hid hi
  clear h
  go_enter Try.func32, Try.ntmps32
  go_wp2_with (go_at_call 34; (with_reducible refine hi.out.mono ?_); rintro e w' ⟨rfl, rfl⟩)
  go_ret
  exact ⟨rfl, rfl⟩
theorem at_dead (h : Dead p W) (l : Int) : Calls Try.prog 26 #[p, .int .i64 l] W fun e w' => e = .returned (.tuple #[.int .i64 0, .int .i64 1]) ∧ W = w' := by
  have hi := is_dead h
  replace hi := Lib.hid hi
  clear h
  go_enter Try.func26, Try.ntmps26
  go_wp2_with (go_at_call 34; (with_reducible refine hi.out.mono ?_); rintro e w' ⟨rfl, rfl⟩)
  go_ret2
  exact ⟨rfl, rfl⟩
theorem start_dead (h : Dead p W) (l : Int) : Calls Try.prog 27 #[p, .int .i64 l] W fun e w' => e = .returned (.tuple #[.int .i64 0, .int .i64 1]) ∧ W = w' := by
  have hi := is_dead h
  replace hi := Lib.hid hi
  clear h
  go_enter Try.func27, Try.ntmps27
  go_wp2_with (go_at_call 34; (with_reducible refine hi.out.mono ?_); rintro e w' ⟨rfl, rfl⟩)
  go_ret2
  exact ⟨rfl, rfl⟩
theorem back_dead (h : Dead p W) (l : Int) : Calls Try.prog 15 #[p, .int .i64 l] W fun e w' => e = .returned (.int .i64 1) ∧ Below W.heap.size W w' := by
  have hA := (Below.refl _ W).alloc (Nat.le_refl _) (.cells #[p] 23)
  have hi := is_dead (h.new hA)
  rcases h with rfl | ⟨z, rfl, _⟩
  · replace hi := Lib.hid hi
    go_enter Try.func15, Try.ntmps15
    go_wp2_with (go_at_call 34; (with_reducible refine hi.out.mono ?_); rintro e w' ⟨rfl, rfl⟩)
    go_ret
    exact ⟨rfl, hA⟩
  · replace hi := Lib.hid hi
    go_enter Try.func15, Try.ntmps15
    go_wp2_with (go_at_call 34; (with_reducible refine hi.out.mono ?_); rintro e w' ⟨rfl, rfl⟩)
    go_ret
    exact ⟨rfl, hA⟩
theorem lits_dead (h : Dead p W) : Calls Try.prog 28 #[p, .int .i64 0] W fun e w' => e = .returned (.func (.func 40) #[] #[.pointer (some ⟨W.heap.size + 1, 0, none⟩), .pointer (some ⟨W.heap.size, 0, none⟩)]) ∧ (W.alloc (.cells #[p] 23)).alloc (.cells #[.int .i64 0] 3) = w' := by
  rcases h with rfl | ⟨z, rfl, _⟩
  · go_enter Try.func28, Try.ntmps28
    go_wp2
    go_ret
    exact ⟨rfl, rfl⟩
  · go_enter Try.func28, Try.ntmps28
    go_wp2
    go_ret
    exact ⟨rfl, rfl⟩
theorem down_dead (h : Dead p W) : Calls Try.prog 29 #[p] W fun e w' => e = .returned (.func (.func 41) #[] #[.pointer (some ⟨W.heap.size, 0, none⟩)]) ∧ W.alloc (.cells #[p] 23) = w' := by
  rcases h with rfl | ⟨z, rfl, _⟩
  · go_enter Try.func29, Try.ntmps29
    go_wp2
    go_ret
    exact ⟨rfl, rfl⟩
  · go_enter Try.func29, Try.ntmps29
    go_wp2
    go_ret
    exact ⟨rfl, rfl⟩
end
/-- What the iterators read of a trail that is none. -/
def RdN (Bf Bt : Nat) (p : Value) (W : World) : Prop := Blk W Bf 3 #[.int .i64 0] ∧ Blk W Bt 23 #[p] ∧ Dead p W
def RdM (Bt : Nat) (p : Value) (W : World) : Prop := Blk W Bt 23 #[p] ∧ Dead p W
attribute [local go_sem] Oper.semAt_some
set_option maxRecDepth 100000 in
theorem seq40_dead (p : Value) (Bf Bt : Nat) :
    Seq Try.prog 40 #[.pointer (some ⟨Bf, 0, none⟩), .pointer (some ⟨Bt, 0, none⟩)] enc2 (fun _ W => RdN Bf Bt p W) (fun _ _ _ => False) (fun xs W => xs = []) := by
  intro m l J Jx W fp hJ hJx hRd hfp hY h0
  obtain ⟨hbf, hbt, hd⟩ := hRd _ _ _ h0
  have b0 := hbf.cell 0
  have b1 := hbt.cell 0
  simp only [List.getElem?_toArray, List.getElem?_cons_zero] at b0 b1
  have hlen := len_dead hd
  clear hbf hbt hY
  have key : CallsIn Fence.wide m Try.prog 40 (#[.func (.yield l) #[] #[]] ++ #[.pointer (some ⟨Bf, 0, none⟩), .pointer (some ⟨Bt, 0, none⟩)]) W fun e W' => (∃ v, e = .returned v) ∧ ((∃ fp xs, xs = [] ∧ J fp xs W') ∨ (∃ pre, Jx pre W')) := by
    rcases hd with rfl | ⟨z, rfl, _⟩
    all_goals
      replace hlen := Lib.hid hlen
      refine callsIn_of_wp Try.func40 rfl trivial ?_ rfl
      simp only [Try.ntmps40, List.size_toArray, List.length_cons, List.length_nil, Nat.reduceAdd, Nat.reduceSub, Array.replicate_succ, Array.replicate_zero, List.push_toArray, List.append_toArray, List.nil_append, List.cons_append]
      gi_wp2
      refine wpIn_loop_once ?_
      gi_wp2_with (refine ⟨trivial, no_depth, ?_⟩; gi_at_call 23; refine (callsIn_wide.2 hlen.out).mono ?_; rintro e w' ⟨rfl, rfl⟩)
      go_end0
      exact ⟨⟨_, rfl⟩, .inl ⟨fp, [], rfl, h0⟩⟩
  exact key
set_option maxRecDepth 100000 in
theorem seq41_dead (p : Value) (Bt : Nat) :
    Seq Try.prog 41 #[.pointer (some ⟨Bt, 0, none⟩)] enc2 (fun _ W => RdM Bt p W) (fun _ _ _ => False) (fun xs W => xs = []) := by
  intro m l J Jx W fp hJ hJx hRd hfp hY h0
  obtain ⟨hbt, hd⟩ := hRd _ _ _ h0
  have b1 := hbt.cell 0
  simp only [List.getElem?_toArray, List.getElem?_cons_zero] at b1
  have hlen := len_dead hd
  clear hbt hY
  have key : CallsIn Fence.wide m Try.prog 41 (#[.func (.yield l) #[] #[]] ++ #[.pointer (some ⟨Bt, 0, none⟩)]) W fun e W' => (∃ v, e = .returned v) ∧ ((∃ fp xs, xs = [] ∧ J fp xs W') ∨ (∃ pre, Jx pre W')) := by
    rcases hd with rfl | ⟨z, rfl, _⟩
    all_goals
      replace hlen := Lib.hid hlen
      refine callsIn_of_wp Try.func41 rfl trivial ?_ rfl
      simp only [Try.ntmps41, List.size_toArray, List.length_cons, List.length_nil, Nat.reduceAdd, Nat.reduceSub, Array.replicate_succ, Array.replicate_zero, List.push_toArray, List.append_toArray, List.nil_append, List.cons_append]
      refine wpIn_wide.2 (wp_scope_straight ?_)
      refine (wpIn_wide (n := m)).1 ?_
      refine wpIn_seq_k (fun K hK => wpIn_label ?_)
      show K _ _
      refine hK _ _ ?_
      clear hK K
      gi_wp2_with (refine ⟨trivial, no_depth, ?_⟩; gi_at_call 23; refine (callsIn_wide.2 hlen.out).mono ?_; rintro e w' ⟨rfl, rfl⟩)
      refine wpIn_loop_once ?_
      gi_wp2
      rw [Exit.noGoto_normal]
      go_end0
      exact ⟨⟨_, rfl⟩, .inl ⟨fp, [], rfl, h0⟩⟩
  exact key
end Go.Proofs.Ytkedepkhcbhcdaa
