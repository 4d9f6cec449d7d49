/- All: the iterator over the numbers. -/
import Derived.RangeFuncNested
import Derived.RangeFuncBound
import Derived.RangeFuncCalls
import Derived.RangeFuncLeaves
import Derived.RangeFuncBox
import Derived.Shelf.Abstract
import Derived.Shelf.RegionOpen
import Derived.WalkKit
import Derived.OwnWalkIn
import Derived.TacticsInMore
import Derived.LoopNIn
import Derived.LoopIn
import Derived.Deep.OwnRows
import Derived.Test.YtanejldglbkacaaDoubles
namespace Go.Proofs.Ytanejldglbkacaa
open Go Go.RowKit Go.Shelf
set_option linter.unusedVariables false
set_option linter.unusedSimpArgs false
attribute [local go_sem] Oper.semAt_some

theorem all_in (n : Nat) (w : World) : CallsIn Fence.wide n Try.prog 24 #[] w fun e w' => e = .returned (.func (.func 38) #[] #[]) ∧ w = w' := by
  refine callsIn_of_wp Try.func24 rfl trivial ?_ rfl
  simp only [Try.ntmps24, List.size_toArray, List.length_cons, List.length_nil, Nat.reduceAdd, Nat.reduceSub, Array.replicate_succ, Array.replicate_zero, List.push_toArray, List.append_toArray, List.nil_append, List.cons_append]
  gi_wp2
  go_ret
  exact ⟨rfl, rfl⟩
abbrev NumIx := { j : Nat // j < 1099511627776 }
set_option maxRecDepth 100000 in
set_option maxHeartbeats 2000000 in
theorem all1_in (n : Nat) (hn : 1 ≤ n) (l : Nat) (J Jx : List NumIx → World → Prop)
    (hY : ∀ pre (y : NumIx) W, J pre W → pre.length < 1099511627776 → YieldAt Fence.wide (n - 1) Try.prog l #[.int .i64 ((y.1 + 1 : Nat) : Int), .int .i64 (L (y.1 + 1) : Int)] W fun e W' =>
      (e = .returned (.bool true) ∧ J (pre ++ [y]) W') ∨ (e = .returned (.bool false) ∧ Jx (pre ++ [y]) W'))
    (W : World) (h0 : J [] W) :
    CallsIn Fence.wide n Try.prog 38 #[.func (.yield l) #[] #[]] W fun e W' => (∃ v, e = .returned v) ∧
      ((∃ ys, ys.map (·.1) = List.range 1099511627776 ∧ J ys W') ∨ (∃ pre, pre.map (·.1) = List.range pre.length ∧ Jx pre W')) := by
  refine callsIn_of_wp Try.func38 rfl trivial ?_ rfl
  simp only [Try.ntmps38, List.size_toArray, List.length_cons, List.length_nil, Nat.reduceAdd, Nat.reduceSub, Array.replicate_succ, Array.replicate_zero, List.push_toArray, List.append_toArray, List.nil_append, List.cons_append]
  gi_wp2
  gi_loopw [2] (fun i wr => ∃ (k : Nat) (pre : List NumIx), k ≤ 1099511627776 ∧ i = .int .i64 ((k + 1 : Nat) : Int) ∧ pre.map (·.1) = List.range k ∧ J pre wr)
    (fun i _ => 1099511627777 - (intOf i).toNat)
  case atStart => exact ⟨0, [], Nat.zero_le _, rfl, rfl, h0⟩
  case round =>
    obtain ⟨k, pre, hk, rfl, hpre, hJs⟩ := hrel
    have hlen : pre.length = k := by have := congrArg List.length hpre; simpa using this
    have hpre := Lib.hid hpre
    by_cases hlt : k < 1099511627776
    · obtain ⟨fn, tmps, assign, body, hy, hR⟩ := hY pre ⟨k, hlt⟩ wr hJs (by omega)
      dsimp only at hy hR
      generalize hkk : ((k + 1 : Nat) : Int) = kk at hy hR ⊢
      have k1 : 1 ≤ kk ∧ kk ≤ 1099511627776 := by omega
      gi_wp2_with (refine ⟨trivial, ?_⟩; gi_at_call 13; refine (callsIn_wide.2 (at_at _ (k + 1) hkk.symm (by omega) (by omega) _)).mono ?_; rintro e w' ⟨rfl, rfl⟩)
      refine hR.mono ?_
      rintro e W3 (⟨rfl, hJ3⟩ | ⟨rfl, hJx3⟩)
      · gi_wp2
        go_roundw
        case rel => exact ⟨k + 1, _, by omega, by rw [← hkk]; go_num, by rw [List.range_succ, List.map_append, hpre.out]; rfl, hJ3⟩
        case measure => simp [intOf]; omega
      · gi_wp2
        refine bodyPost_ret (results_none rfl _ _ _) rfl ?_
        refine ⟨⟨_, rfl⟩, .inr ⟨_, ?_, hJx3⟩⟩
        rw [List.map_append, hpre.out, List.length_append, hlen]; exact List.range_succ.symm
    · obtain rfl : k = 1099511627776 := by omega
      simp only [show ((1099511627776 + 1 : Nat) : Int) = 1099511627777 from rfl]
      gi_wp2
      go_end0
      exact ⟨⟨_, rfl⟩, .inl ⟨_, hpre.out, hJs⟩⟩
end Go.Proofs.Ytanejldglbkacaa
