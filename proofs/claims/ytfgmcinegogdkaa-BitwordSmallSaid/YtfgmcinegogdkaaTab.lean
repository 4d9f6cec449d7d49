import Derived.Test.YtfgmcinegogdkaaProg
import Derived.Test.YtfgmcinegogdkaaBase
namespace Go.Proofs.Ytfgmcinegogdkaa
open Go.RowKit
set_option maxHeartbeats 400000
def str (l : List UInt8) : Value := .string ⟨l.toArray⟩
def row (nm : List UInt8) (rk : Int) (tr : Bool) (f : Nat) : List Value := [str nm, .int .i64 rk, .bool tr, .func (.func f) #[] #[]]
def tableC : Array Value := ([str [], .int .i64 0, .bool false, .nilFunc] ++ row [126] 0 false 44 ++ row [45] 0 false 45 ++ row [43] 5 false 46 ++ row [45] 5 false 47 ++ row [42] 6 false 48 ++ row [47] 6 false 49 ++ row [37] 6 false 50 ++ row [38] 2 false 51 ++ row [124] 1 false 52 ++ row [94] 1 false 53 ++ row [60,60] 4 false 54 ++ row [62,62] 4 false 55 ++ row [61,61] 3 true 56 ++ row [33,61] 3 true 57 ++ row [60] 3 true 58 ++ row [60,61] 3 true 59).toArray
def Z71 : Array Value := (List.replicate 17 [str [], .int .i64 0, .bool false, .nilFunc]).flatten.toArray
theorem zero71 (w : World) : (zeroValue 71).run Try.prog w = .ok (.agg Z71) w := by kernel_rfl
set_option maxRecDepth 100000 in
theorem table_any (w : World) :
    Calls Try.prog 39 #[] w fun e w' => e = .returned (.agg tableC) ∧ w.alloc (.cells tableC 71) = w' := by
  go_enter Try.func39, Try.ntmps39
  go_wp2_with (first | (refine wpList_alloc_zero rfl 71 rfl Z71 zero71 ?_) | (refine wpList_build rfl 71 _ rfl tableC (by kernel_rfl) ?_) | (refine wpList_build rfl 70 _ rfl _ (by kernel_rfl) ?_) | (refine wpList_store_new rfl 71 _ _ rfl w Z71 tableC 71 rfl rfl rfl (by kernel_rfl) (by kernel_rfl) (by kernel_rfl) ?_))
  exact bodyPost_ret (results_cell_row rfl _ _ w.heap.size 71 tableC (0,0) _ rfl (heap_new _ _) Try.underlying71 rfl (by kernel_rfl)) rfl ⟨rfl, rfl⟩
end Go.Proofs.Ytfgmcinegogdkaa
