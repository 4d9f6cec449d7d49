/-
  No cell of these rows narrows 'for every input' (looked for: loops, veiled, ifaces, maps, wideKeys, modest, calm, conditions, laid).
  DERIVED. THE GIVEN ROWS OF THIS SEAT. 8 by the template 'for every input the law returns true; each argument reads behind the call as it read before'; 0 by the template 'total and deterministic' (their statements: YtanejldglbkacaaTotals.lean).
  GIVEN WITH THE SEED: the statements are not yours to turn. If you find one false, say at which input.
  Laid BY PROGRAM, IN A SANDBOX (cutbox-rows.mjs): the forced cells as the released guide's own fill.sh prints them over the translation a13a3e84eb360fe0… (all of the seat's roots in one cut). By AI agents, Wed Nov 11 2026. No macro, syntax, notation, axiom, sorry.
-/
import Derived.Test.YtanejldglbkacaaChecked
import GoSem.Claim
import GoSem.ClaimJoined
import GoSem.ClaimMapViews
import Derived.JoinedTies
import Derived.KernelRfl
namespace Go.Proofs.Ytanejldglbkacaa
/- THE CELL 'sum', in the pinned program and in every row, IS THE sha256 OF THE DUMP (.gsa) THAT YtanejldglbkacaaProg.lean LOADS. Nothing in Lean hashes anything: it is a label: what it is worth is what the hold of that sum in a sandbox is worth. -/
noncomputable def Try.pinned : Pinned := { name := "ytanejldglbkacaa", sum := "a13a3e84eb360fe04359f2bc082244430c85feff893333e7502ae605cbee4683", checked := Try.checked }
namespace Rows
def none {H : Type} : Left H := { results := [], args := [] }

/-- 'salvorlaw12.LubyConflicts': WHATEVER THE INPUT: true; the input reads as it did. -/
def lubyConflictsSpec : ChangeSpec := { name := "lubyConflicts", fn := fun _ => fun
  | [d1, d2] => { results := [.lit (.bool true)], args := [d1, d2] }
  | _ => none }
def lubyConflictsRow : OpenClaim := { program := "ytanejldglbkacaa", sum := "a13a3e84eb360fe04359f2bc082244430c85feff893333e7502ae605cbee4683", func := "salvor/salvorlaw12.LubyConflicts", spec := "lubyConflicts", unfollowed := true, recurses := true, apart := false }
def LubyConflictsSaid : Prop := lubyConflictsRow.holds Try.pinned (OpenSpec.ofChange lubyConflictsSpec)

/-- ITS FALSE NEIGHBOUR: 'it returns false'. Refute it at one input. -/
def lubyConflictsWrong : ChangeSpec := { name := "lubyConflicts", fn := fun _ => fun
  | [d1, d2] => { results := [.lit (.bool false)], args := [d1, d2] }
  | _ => none }
def LubyConflictsWrongFalsely : Prop := lubyConflictsRow.holds Try.pinned (OpenSpec.ofChange lubyConflictsWrong)

/-- 'salvorlaw12.LubyDoubles': WHATEVER THE INPUT: true; the input reads as it did. -/
def lubyDoublesSpec : ChangeSpec := { name := "lubyDoubles", fn := fun _ => fun
  | [d1, d2] => { results := [.lit (.bool true)], args := [d1, d2] }
  | _ => none }
def lubyDoublesRow : OpenClaim := { program := "ytanejldglbkacaa", sum := "a13a3e84eb360fe04359f2bc082244430c85feff893333e7502ae605cbee4683", func := "salvor/salvorlaw12.LubyDoubles", spec := "lubyDoubles", unfollowed := true, recurses := true, apart := false }
def LubyDoublesSaid : Prop := lubyDoublesRow.holds Try.pinned (OpenSpec.ofChange lubyDoublesSpec)

/-- ITS FALSE NEIGHBOUR: 'it returns false'. Refute it at one input. -/
def lubyDoublesWrong : ChangeSpec := { name := "lubyDoubles", fn := fun _ => fun
  | [d1, d2] => { results := [.lit (.bool false)], args := [d1, d2] }
  | _ => none }
def LubyDoublesWrongFalsely : Prop := lubyDoublesRow.holds Try.pinned (OpenSpec.ofChange lubyDoublesWrong)

/-- 'salvorlaw12.LubySums': WHATEVER THE INPUT: true; the input reads as it did. -/
def lubySumsSpec : ChangeSpec := { name := "lubySums", fn := fun _ => fun
  | [d1, d2] => { results := [.lit (.bool true)], args := [d1, d2] }
  | _ => none }
def lubySumsRow : OpenClaim := { program := "ytanejldglbkacaa", sum := "a13a3e84eb360fe04359f2bc082244430c85feff893333e7502ae605cbee4683", func := "salvor/salvorlaw12.LubySums", spec := "lubySums", unfollowed := true, recurses := true, apart := false }
def LubySumsSaid : Prop := lubySumsRow.holds Try.pinned (OpenSpec.ofChange lubySumsSpec)

/-- ITS FALSE NEIGHBOUR: 'it returns false'. Refute it at one input. -/
def lubySumsWrong : ChangeSpec := { name := "lubySums", fn := fun _ => fun
  | [d1, d2] => { results := [.lit (.bool false)], args := [d1, d2] }
  | _ => none }
def LubySumsWrongFalsely : Prop := lubySumsRow.holds Try.pinned (OpenSpec.ofChange lubySumsWrong)

/-- 'salvorlaw12.LubyRestarts': WHATEVER THE INPUT: true; the input reads as it did. -/
def lubyRestartsSpec : ChangeSpec := { name := "lubyRestarts", fn := fun _ => fun
  | [d1, d2] => { results := [.lit (.bool true)], args := [d1, d2] }
  | _ => none }
def lubyRestartsRow : OpenClaim := { program := "ytanejldglbkacaa", sum := "a13a3e84eb360fe04359f2bc082244430c85feff893333e7502ae605cbee4683", func := "salvor/salvorlaw12.LubyRestarts", spec := "lubyRestarts", unfollowed := true, recurses := true, apart := false }
def LubyRestartsSaid : Prop := lubyRestartsRow.holds Try.pinned (OpenSpec.ofChange lubyRestartsSpec)

/-- ITS FALSE NEIGHBOUR: 'it returns false'. Refute it at one input. -/
def lubyRestartsWrong : ChangeSpec := { name := "lubyRestarts", fn := fun _ => fun
  | [d1, d2] => { results := [.lit (.bool false)], args := [d1, d2] }
  | _ => none }
def LubyRestartsWrongFalsely : Prop := lubyRestartsRow.holds Try.pinned (OpenSpec.ofChange lubyRestartsWrong)

/-- 'salvorlaw12.LubyWrong': WHATEVER THE INPUT: true; the input reads as it did. -/
def lubyWrongSpec : ChangeSpec := { name := "lubyWrong", fn := fun _ => fun
  | [d] => { results := [.lit (.bool true)], args := [d] }
  | _ => none }
def lubyWrongRow : OpenClaim := { program := "ytanejldglbkacaa", sum := "a13a3e84eb360fe04359f2bc082244430c85feff893333e7502ae605cbee4683", func := "salvor/salvorlaw12.LubyWrong", spec := "lubyWrong", unfollowed := true, recurses := true, apart := false }
def LubyWrongSaid : Prop := lubyWrongRow.holds Try.pinned (OpenSpec.ofChange lubyWrongSpec)

/-- ITS FALSE NEIGHBOUR: 'it returns false'. Refute it at one input. -/
def lubyWrongWrong : ChangeSpec := { name := "lubyWrong", fn := fun _ => fun
  | [d] => { results := [.lit (.bool false)], args := [d] }
  | _ => none }
def LubyWrongWrongFalsely : Prop := lubyWrongRow.holds Try.pinned (OpenSpec.ofChange lubyWrongWrong)

/-- 'salvorlaw12.LubyYields': WHATEVER THE INPUT: true; the input reads as it did. -/
def lubyYieldsSpec : ChangeSpec := { name := "lubyYields", fn := fun _ => fun
  | [d] => { results := [.lit (.bool true)], args := [d] }
  | _ => none }
def lubyYieldsRow : OpenClaim := { program := "ytanejldglbkacaa", sum := "a13a3e84eb360fe04359f2bc082244430c85feff893333e7502ae605cbee4683", func := "salvor/salvorlaw12.LubyYields", spec := "lubyYields", unfollowed := true, recurses := true, apart := false }
def LubyYieldsSaid : Prop := lubyYieldsRow.holds Try.pinned (OpenSpec.ofChange lubyYieldsSpec)

/-- ITS FALSE NEIGHBOUR: 'it returns false'. Refute it at one input. -/
def lubyYieldsWrong : ChangeSpec := { name := "lubyYields", fn := fun _ => fun
  | [d] => { results := [.lit (.bool false)], args := [d] }
  | _ => none }
def LubyYieldsWrongFalsely : Prop := lubyYieldsRow.holds Try.pinned (OpenSpec.ofChange lubyYieldsWrong)

/-- 'salvorlaw12.LubyTells': WHATEVER THE INPUT: true; the input reads as it did. -/
def lubyTellsSpec : ChangeSpec := { name := "lubyTells", fn := fun _ => fun
  | [d1, d2] => { results := [.lit (.bool true)], args := [d1, d2] }
  | _ => none }
def lubyTellsRow : OpenClaim := { program := "ytanejldglbkacaa", sum := "a13a3e84eb360fe04359f2bc082244430c85feff893333e7502ae605cbee4683", func := "salvor/salvorlaw12.LubyTells", spec := "lubyTells", unfollowed := true, recurses := true, apart := false }
def LubyTellsSaid : Prop := lubyTellsRow.holds Try.pinned (OpenSpec.ofChange lubyTellsSpec)

/-- ITS FALSE NEIGHBOUR: 'it returns false'. Refute it at one input. -/
def lubyTellsWrong : ChangeSpec := { name := "lubyTells", fn := fun _ => fun
  | [d1, d2] => { results := [.lit (.bool false)], args := [d1, d2] }
  | _ => none }
def LubyTellsWrongFalsely : Prop := lubyTellsRow.holds Try.pinned (OpenSpec.ofChange lubyTellsWrong)

/-- 'salvorlaw12.LubySmall': WHATEVER THE INPUT: true; the input reads as it did. -/
def lubySmallSpec : ChangeSpec := { name := "lubySmall", fn := fun _ => fun
  | [] => { results := [.lit (.bool true)], args := [] }
  | _ => none }
def lubySmallRow : OpenClaim := { program := "ytanejldglbkacaa", sum := "a13a3e84eb360fe04359f2bc082244430c85feff893333e7502ae605cbee4683", func := "salvor/salvorlaw12.LubySmall", spec := "lubySmall", unfollowed := true, recurses := true, apart := false }
def LubySmallSaid : Prop := lubySmallRow.holds Try.pinned (OpenSpec.ofChange lubySmallSpec)

/-- ITS FALSE NEIGHBOUR: 'it returns false'. Refute it at one input. -/
def lubySmallWrong : ChangeSpec := { name := "lubySmall", fn := fun _ => fun
  | [] => { results := [.lit (.bool false)], args := [] }
  | _ => none }
def LubySmallWrongFalsely : Prop := lubySmallRow.holds Try.pinned (OpenSpec.ofChange lubySmallWrong)

/- THE SECOND FORM. 'bulk': how many values and letters a reading holds, each counted each time it is reached (what is shared counts as often as it is met; a slice's spare places count too). A statement '..UptoSaid' is the law's where the arguments, and the package variables that the reading takes, are together of bulk at most 1048576: NARROWER than '..Said'. Prove '..Said' where nothing that the law and all that it calls make is longer than what came in: it says more and counts as full. Else prove '..UptoSaid'. A law counts once. -/
mutual
def uptoBulk {H : Type} : DataW H → Nat
  | .lit (.string bytes) => bytes.length + 1
  | .lit _ => 1
  | .nil => 1
  | .ptr d => uptoBulk d + 1
  | .slice elems spare => uptoBulkAll elems + uptoBulkAll spare + 1
  | .agg parts => uptoBulkAll parts + 1
  | .iface _ d => uptoBulk d + 1
  | .map entries => uptoBulkEntries entries + 1
  | .held _ => 1
def uptoBulkAll {H : Type} : List (DataW H) → Nat
  | [] => 0
  | d :: r => uptoBulk d + uptoBulkAll r
def uptoBulkEntries {H : Type} : List (Lit × DataW H) → Nat
  | [] => 0
  | x :: r => uptoBulkEntry x + uptoBulkEntries r
def uptoBulkEntry {H : Type} : Lit × DataW H → Nat
  | (.string bytes, d) => bytes.length + uptoBulk d + 1
  | (_, d) => uptoBulk d + 1
 end
def uptoSmall : (H : Type) → List (DataW H) → Bool := fun _ ds => decide (uptoBulkAll ds ≤ 1048576)
def OpenSpec.upto (s : _root_.Go.ChangeSpec) : _root_.Go.OpenSpec := { _root_.Go.OpenSpec.ofChange s with cond := some uptoSmall }

/-- 'salvorlaw12.LubyConflicts', WHERE WHAT IT READS IS OF BULK AT MOST 1048576: true; the input reads as it did. -/
def lubyConflictsUptoRow : OpenClaim := { program := "ytanejldglbkacaa", sum := "a13a3e84eb360fe04359f2bc082244430c85feff893333e7502ae605cbee4683", func := "salvor/salvorlaw12.LubyConflicts", spec := "lubyConflicts", unfollowed := true, recurses := true, apart := false, narrowed := true }
def LubyConflictsUptoSaid : Prop := lubyConflictsUptoRow.holds Try.pinned (OpenSpec.upto lubyConflictsSpec)

/-- 'salvorlaw12.LubyDoubles', WHERE WHAT IT READS IS OF BULK AT MOST 1048576: true; the input reads as it did. -/
def lubyDoublesUptoRow : OpenClaim := { program := "ytanejldglbkacaa", sum := "a13a3e84eb360fe04359f2bc082244430c85feff893333e7502ae605cbee4683", func := "salvor/salvorlaw12.LubyDoubles", spec := "lubyDoubles", unfollowed := true, recurses := true, apart := false, narrowed := true }
def LubyDoublesUptoSaid : Prop := lubyDoublesUptoRow.holds Try.pinned (OpenSpec.upto lubyDoublesSpec)

/-- 'salvorlaw12.LubySums', WHERE WHAT IT READS IS OF BULK AT MOST 1048576: true; the input reads as it did. -/
def lubySumsUptoRow : OpenClaim := { program := "ytanejldglbkacaa", sum := "a13a3e84eb360fe04359f2bc082244430c85feff893333e7502ae605cbee4683", func := "salvor/salvorlaw12.LubySums", spec := "lubySums", unfollowed := true, recurses := true, apart := false, narrowed := true }
def LubySumsUptoSaid : Prop := lubySumsUptoRow.holds Try.pinned (OpenSpec.upto lubySumsSpec)

/-- 'salvorlaw12.LubyRestarts', WHERE WHAT IT READS IS OF BULK AT MOST 1048576: true; the input reads as it did. -/
def lubyRestartsUptoRow : OpenClaim := { program := "ytanejldglbkacaa", sum := "a13a3e84eb360fe04359f2bc082244430c85feff893333e7502ae605cbee4683", func := "salvor/salvorlaw12.LubyRestarts", spec := "lubyRestarts", unfollowed := true, recurses := true, apart := false, narrowed := true }
def LubyRestartsUptoSaid : Prop := lubyRestartsUptoRow.holds Try.pinned (OpenSpec.upto lubyRestartsSpec)

/-- 'salvorlaw12.LubyWrong', WHERE WHAT IT READS IS OF BULK AT MOST 1048576: true; the input reads as it did. -/
def lubyWrongUptoRow : OpenClaim := { program := "ytanejldglbkacaa", sum := "a13a3e84eb360fe04359f2bc082244430c85feff893333e7502ae605cbee4683", func := "salvor/salvorlaw12.LubyWrong", spec := "lubyWrong", unfollowed := true, recurses := true, apart := false, narrowed := true }
def LubyWrongUptoSaid : Prop := lubyWrongUptoRow.holds Try.pinned (OpenSpec.upto lubyWrongSpec)

/-- 'salvorlaw12.LubyYields', WHERE WHAT IT READS IS OF BULK AT MOST 1048576: true; the input reads as it did. -/
def lubyYieldsUptoRow : OpenClaim := { program := "ytanejldglbkacaa", sum := "a13a3e84eb360fe04359f2bc082244430c85feff893333e7502ae605cbee4683", func := "salvor/salvorlaw12.LubyYields", spec := "lubyYields", unfollowed := true, recurses := true, apart := false, narrowed := true }
def LubyYieldsUptoSaid : Prop := lubyYieldsUptoRow.holds Try.pinned (OpenSpec.upto lubyYieldsSpec)

/-- 'salvorlaw12.LubyTells', WHERE WHAT IT READS IS OF BULK AT MOST 1048576: true; the input reads as it did. -/
def lubyTellsUptoRow : OpenClaim := { program := "ytanejldglbkacaa", sum := "a13a3e84eb360fe04359f2bc082244430c85feff893333e7502ae605cbee4683", func := "salvor/salvorlaw12.LubyTells", spec := "lubyTells", unfollowed := true, recurses := true, apart := false, narrowed := true }
def LubyTellsUptoSaid : Prop := lubyTellsUptoRow.holds Try.pinned (OpenSpec.upto lubyTellsSpec)

/-- 'salvorlaw12.LubySmall', WHERE WHAT IT READS IS OF BULK AT MOST 1048576: true; the input reads as it did. -/
def lubySmallUptoRow : OpenClaim := { program := "ytanejldglbkacaa", sum := "a13a3e84eb360fe04359f2bc082244430c85feff893333e7502ae605cbee4683", func := "salvor/salvorlaw12.LubySmall", spec := "lubySmall", unfollowed := true, recurses := true, apart := false, narrowed := true }
def LubySmallUptoSaid : Prop := lubySmallUptoRow.holds Try.pinned (OpenSpec.upto lubySmallSpec)

end Rows
end Go.Proofs.Ytanejldglbkacaa
