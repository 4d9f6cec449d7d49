/-
  No cell of these rows narrows 'for every input' (looked for: loops, veiled, ifaces, maps, wideKeys, modest, calm, conditions, laid).
  DERIVED. THE GIVEN ROWS OF THIS SEAT. 7 by the template 'for every input the law returns true; each argument reads behind the call as it read before'; 0 by the template 'total and deterministic' (their statements: YtkedepkhcbhcdaaTotals.lean).
  GIVEN WITH THE SEED: the statements are not yours to turn. If you find one false, say at which input.
  Laid BY PROGRAM, IN A SANDBOX (cutbox-rows.mjs): the forced cells as the released guide's own fill.sh prints them over the translation 0c2daa4ea059af53… (all of the seat's roots in one cut). By AI agents, Wed Nov 11 2026. No macro, syntax, notation, axiom, sorry.
-/
import Derived.Test.YtkedepkhcbhcdaaChecked
import GoSem.Claim
import GoSem.ClaimJoined
import GoSem.ClaimMapViews
import Derived.JoinedTies
import Derived.KernelRfl
namespace Go.Proofs.Ytkedepkhcbhcdaa
/- THE CELL 'sum', in the pinned program and in every row, IS THE sha256 OF THE DUMP (.gsa) THAT YtkedepkhcbhcdaaProg.lean LOADS. Nothing in Lean hashes anything: it is a label: what it is worth is what the hold of that sum in a sandbox is worth. -/
noncomputable def Try.pinned : Pinned := { name := "ytkedepkhcbhcdaa", sum := "0c2daa4ea059af532bc1fe909765dda1637f537695acaf66f75570212f5bb31c", checked := Try.checked }
namespace Rows
def none {H : Type} : Left H := { results := [], args := [] }

/-- 'salvorlaw04.TrailReasons': WHATEVER THE INPUT: true; the input reads as it did. -/
def trailReasonsSpec : ChangeSpec := { name := "trailReasons", fn := fun _ => fun
  | [d1, d2, d3, d4, d5] => { results := [.lit (.bool true)], args := [d1, d2, d3, d4, d5] }
  | _ => none }
def trailReasonsRow : OpenClaim := { program := "ytkedepkhcbhcdaa", sum := "0c2daa4ea059af532bc1fe909765dda1637f537695acaf66f75570212f5bb31c", func := "salvor/salvorlaw04.TrailReasons", spec := "trailReasons", unfollowed := true, recurses := true, apart := false }
def TrailReasonsSaid : Prop := trailReasonsRow.holds Try.pinned (OpenSpec.ofChange trailReasonsSpec)

/-- ITS FALSE NEIGHBOUR: 'it returns false'. Refute it at one input. -/
def trailReasonsWrong : ChangeSpec := { name := "trailReasons", fn := fun _ => fun
  | [d1, d2, d3, d4, d5] => { results := [.lit (.bool false)], args := [d1, d2, d3, d4, d5] }
  | _ => none }
def TrailReasonsWrongFalsely : Prop := trailReasonsRow.holds Try.pinned (OpenSpec.ofChange trailReasonsWrong)

/-- 'salvorlaw04.TrailBack': WHATEVER THE INPUT: true; the input reads as it did. -/
def trailBackSpec : ChangeSpec := { name := "trailBack", fn := fun _ => fun
  | [d1, d2] => { results := [.lit (.bool true)], args := [d1, d2] }
  | _ => none }
def trailBackRow : OpenClaim := { program := "ytkedepkhcbhcdaa", sum := "0c2daa4ea059af532bc1fe909765dda1637f537695acaf66f75570212f5bb31c", func := "salvor/salvorlaw04.TrailBack", spec := "trailBack", unfollowed := true, recurses := true, apart := false }
def TrailBackSaid : Prop := trailBackRow.holds Try.pinned (OpenSpec.ofChange trailBackSpec)

/-- ITS FALSE NEIGHBOUR: 'it returns false'. Refute it at one input. -/
def trailBackWrong : ChangeSpec := { name := "trailBack", fn := fun _ => fun
  | [d1, d2] => { results := [.lit (.bool false)], args := [d1, d2] }
  | _ => none }
def TrailBackWrongFalsely : Prop := trailBackRow.holds Try.pinned (OpenSpec.ofChange trailBackWrong)

/-- 'salvorlaw04.TrailWrong': WHATEVER THE INPUT: true; the input reads as it did. -/
def trailWrongSpec : ChangeSpec := { name := "trailWrong", fn := fun _ => fun
  | [d1, d2] => { results := [.lit (.bool true)], args := [d1, d2] }
  | _ => none }
def trailWrongRow : OpenClaim := { program := "ytkedepkhcbhcdaa", sum := "0c2daa4ea059af532bc1fe909765dda1637f537695acaf66f75570212f5bb31c", func := "salvor/salvorlaw04.TrailWrong", spec := "trailWrong", unfollowed := true, recurses := true, apart := false }
def TrailWrongSaid : Prop := trailWrongRow.holds Try.pinned (OpenSpec.ofChange trailWrongSpec)

/-- ITS FALSE NEIGHBOUR: 'it returns false'. Refute it at one input. -/
def trailWrongWrong : ChangeSpec := { name := "trailWrong", fn := fun _ => fun
  | [d1, d2] => { results := [.lit (.bool false)], args := [d1, d2] }
  | _ => none }
def TrailWrongWrongFalsely : Prop := trailWrongRow.holds Try.pinned (OpenSpec.ofChange trailWrongWrong)

/-- 'salvorlaw04.TrailYields': WHATEVER THE INPUT: true; the input reads as it did. -/
def trailYieldsSpec : ChangeSpec := { name := "trailYields", fn := fun _ => fun
  | [d1, d2, d3, d4] => { results := [.lit (.bool true)], args := [d1, d2, d3, d4] }
  | _ => none }
def trailYieldsRow : OpenClaim := { program := "ytkedepkhcbhcdaa", sum := "0c2daa4ea059af532bc1fe909765dda1637f537695acaf66f75570212f5bb31c", func := "salvor/salvorlaw04.TrailYields", spec := "trailYields", unfollowed := true, recurses := true, apart := false }
def TrailYieldsSaid : Prop := trailYieldsRow.holds Try.pinned (OpenSpec.ofChange trailYieldsSpec)

/-- ITS FALSE NEIGHBOUR: 'it returns false'. Refute it at one input. -/
def trailYieldsWrong : ChangeSpec := { name := "trailYields", fn := fun _ => fun
  | [d1, d2, d3, d4] => { results := [.lit (.bool false)], args := [d1, d2, d3, d4] }
  | _ => none }
def TrailYieldsWrongFalsely : Prop := trailYieldsRow.holds Try.pinned (OpenSpec.ofChange trailYieldsWrong)

/-- 'salvorlaw04.TrailPlays': WHATEVER THE INPUT: true; the input reads as it did. -/
def trailPlaysSpec : ChangeSpec := { name := "trailPlays", fn := fun _ => fun
  | [d1, d2] => { results := [.lit (.bool true)], args := [d1, d2] }
  | _ => none }
def trailPlaysRow : OpenClaim := { program := "ytkedepkhcbhcdaa", sum := "0c2daa4ea059af532bc1fe909765dda1637f537695acaf66f75570212f5bb31c", func := "salvor/salvorlaw04.TrailPlays", spec := "trailPlays", unfollowed := true, recurses := true, apart := false }
def TrailPlaysSaid : Prop := trailPlaysRow.holds Try.pinned (OpenSpec.ofChange trailPlaysSpec)

/-- ITS FALSE NEIGHBOUR: 'it returns false'. Refute it at one input. -/
def trailPlaysWrong : ChangeSpec := { name := "trailPlays", fn := fun _ => fun
  | [d1, d2] => { results := [.lit (.bool false)], args := [d1, d2] }
  | _ => none }
def TrailPlaysWrongFalsely : Prop := trailPlaysRow.holds Try.pinned (OpenSpec.ofChange trailPlaysWrong)

/-- 'salvorlaw04.TrailSmall': WHATEVER THE INPUT: true; the input reads as it did. -/
def trailSmallSpec : ChangeSpec := { name := "trailSmall", fn := fun _ => fun
  | [] => { results := [.lit (.bool true)], args := [] }
  | _ => none }
def trailSmallRow : OpenClaim := { program := "ytkedepkhcbhcdaa", sum := "0c2daa4ea059af532bc1fe909765dda1637f537695acaf66f75570212f5bb31c", func := "salvor/salvorlaw04.TrailSmall", spec := "trailSmall", unfollowed := true, recurses := true, apart := false }
def TrailSmallSaid : Prop := trailSmallRow.holds Try.pinned (OpenSpec.ofChange trailSmallSpec)

/-- ITS FALSE NEIGHBOUR: 'it returns false'. Refute it at one input. -/
def trailSmallWrong : ChangeSpec := { name := "trailSmall", fn := fun _ => fun
  | [] => { results := [.lit (.bool false)], args := [] }
  | _ => none }
def TrailSmallWrongFalsely : Prop := trailSmallRow.holds Try.pinned (OpenSpec.ofChange trailSmallWrong)

/-- 'salvorlaw04.TrailLevels': WHATEVER THE INPUT: true; the input reads as it did. -/
def trailLevelsSpec : ChangeSpec := { name := "trailLevels", fn := fun _ => fun
  | [d] => { results := [.lit (.bool true)], args := [d] }
  | _ => none }
def trailLevelsRow : OpenClaim := { program := "ytkedepkhcbhcdaa", sum := "0c2daa4ea059af532bc1fe909765dda1637f537695acaf66f75570212f5bb31c", func := "salvor/salvorlaw04.TrailLevels", spec := "trailLevels", unfollowed := true, recurses := true, apart := false }
def TrailLevelsSaid : Prop := trailLevelsRow.holds Try.pinned (OpenSpec.ofChange trailLevelsSpec)

/-- ITS FALSE NEIGHBOUR: 'it returns false'. Refute it at one input. -/
def trailLevelsWrong : ChangeSpec := { name := "trailLevels", fn := fun _ => fun
  | [d] => { results := [.lit (.bool false)], args := [d] }
  | _ => none }
def TrailLevelsWrongFalsely : Prop := trailLevelsRow.holds Try.pinned (OpenSpec.ofChange trailLevelsWrong)

/- THE SECOND FORM. 'bulk': how many values and letters a reading holds, each counted each time it is reached (what is shared counts as often as it is met; a slice's spare places count too). A statement '..UptoSaid' is the law's where the arguments, and the package variables that the reading takes, are together of bulk at most 1048576: NARROWER than '..Said'. Prove '..Said' where nothing that the law and all that it calls make is longer than what came in: it says more and counts as full. Else prove '..UptoSaid'. A law counts once. -/
mutual
def uptoBulk {H : Type} : DataW H → Nat
  | .lit (.string bytes) => bytes.length + 1
  | .lit _ => 1
  | .nil => 1
  | .ptr d => uptoBulk d + 1
  | .slice elems spare => uptoBulkAll elems + uptoBulkAll spare + 1
  | .agg parts => uptoBulkAll parts + 1
  | .iface _ d => uptoBulk d + 1
  | .map entries => uptoBulkEntries entries + 1
  | .held _ => 1
def uptoBulkAll {H : Type} : List (DataW H) → Nat
  | [] => 0
  | d :: r => uptoBulk d + uptoBulkAll r
def uptoBulkEntries {H : Type} : List (Lit × DataW H) → Nat
  | [] => 0
  | x :: r => uptoBulkEntry x + uptoBulkEntries r
def uptoBulkEntry {H : Type} : Lit × DataW H → Nat
  | (.string bytes, d) => bytes.length + uptoBulk d + 1
  | (_, d) => uptoBulk d + 1
 end
def uptoSmall : (H : Type) → List (DataW H) → Bool := fun _ ds => decide (uptoBulkAll ds ≤ 1048576)
def OpenSpec.upto (s : _root_.Go.ChangeSpec) : _root_.Go.OpenSpec := { _root_.Go.OpenSpec.ofChange s with cond := some uptoSmall }

/-- 'salvorlaw04.TrailReasons', WHERE WHAT IT READS IS OF BULK AT MOST 1048576: true; the input reads as it did. -/
def trailReasonsUptoRow : OpenClaim := { program := "ytkedepkhcbhcdaa", sum := "0c2daa4ea059af532bc1fe909765dda1637f537695acaf66f75570212f5bb31c", func := "salvor/salvorlaw04.TrailReasons", spec := "trailReasons", unfollowed := true, recurses := true, apart := false, narrowed := true }
def TrailReasonsUptoSaid : Prop := trailReasonsUptoRow.holds Try.pinned (OpenSpec.upto trailReasonsSpec)

/-- 'salvorlaw04.TrailBack', WHERE WHAT IT READS IS OF BULK AT MOST 1048576: true; the input reads as it did. -/
def trailBackUptoRow : OpenClaim := { program := "ytkedepkhcbhcdaa", sum := "0c2daa4ea059af532bc1fe909765dda1637f537695acaf66f75570212f5bb31c", func := "salvor/salvorlaw04.TrailBack", spec := "trailBack", unfollowed := true, recurses := true, apart := false, narrowed := true }
def TrailBackUptoSaid : Prop := trailBackUptoRow.holds Try.pinned (OpenSpec.upto trailBackSpec)

/-- 'salvorlaw04.TrailWrong', WHERE WHAT IT READS IS OF BULK AT MOST 1048576: true; the input reads as it did. -/
def trailWrongUptoRow : OpenClaim := { program := "ytkedepkhcbhcdaa", sum := "0c2daa4ea059af532bc1fe909765dda1637f537695acaf66f75570212f5bb31c", func := "salvor/salvorlaw04.TrailWrong", spec := "trailWrong", unfollowed := true, recurses := true, apart := false, narrowed := true }
def TrailWrongUptoSaid : Prop := trailWrongUptoRow.holds Try.pinned (OpenSpec.upto trailWrongSpec)

/-- 'salvorlaw04.TrailYields', WHERE WHAT IT READS IS OF BULK AT MOST 1048576: true; the input reads as it did. -/
def trailYieldsUptoRow : OpenClaim := { program := "ytkedepkhcbhcdaa", sum := "0c2daa4ea059af532bc1fe909765dda1637f537695acaf66f75570212f5bb31c", func := "salvor/salvorlaw04.TrailYields", spec := "trailYields", unfollowed := true, recurses := true, apart := false, narrowed := true }
def TrailYieldsUptoSaid : Prop := trailYieldsUptoRow.holds Try.pinned (OpenSpec.upto trailYieldsSpec)

/-- 'salvorlaw04.TrailPlays', WHERE WHAT IT READS IS OF BULK AT MOST 1048576: true; the input reads as it did. -/
def trailPlaysUptoRow : OpenClaim := { program := "ytkedepkhcbhcdaa", sum := "0c2daa4ea059af532bc1fe909765dda1637f537695acaf66f75570212f5bb31c", func := "salvor/salvorlaw04.TrailPlays", spec := "trailPlays", unfollowed := true, recurses := true, apart := false, narrowed := true }
def TrailPlaysUptoSaid : Prop := trailPlaysUptoRow.holds Try.pinned (OpenSpec.upto trailPlaysSpec)

/-- 'salvorlaw04.TrailSmall', WHERE WHAT IT READS IS OF BULK AT MOST 1048576: true; the input reads as it did. -/
def trailSmallUptoRow : OpenClaim := { program := "ytkedepkhcbhcdaa", sum := "0c2daa4ea059af532bc1fe909765dda1637f537695acaf66f75570212f5bb31c", func := "salvor/salvorlaw04.TrailSmall", spec := "trailSmall", unfollowed := true, recurses := true, apart := false, narrowed := true }
def TrailSmallUptoSaid : Prop := trailSmallUptoRow.holds Try.pinned (OpenSpec.upto trailSmallSpec)

/-- 'salvorlaw04.TrailLevels', WHERE WHAT IT READS IS OF BULK AT MOST 1048576: true; the input reads as it did. -/
def trailLevelsUptoRow : OpenClaim := { program := "ytkedepkhcbhcdaa", sum := "0c2daa4ea059af532bc1fe909765dda1637f537695acaf66f75570212f5bb31c", func := "salvor/salvorlaw04.TrailLevels", spec := "trailLevels", unfollowed := true, recurses := true, apart := false, narrowed := true }
def TrailLevelsUptoSaid : Prop := trailLevelsUptoRow.holds Try.pinned (OpenSpec.upto trailLevelsSpec)

end Rows
end Go.Proofs.Ytkedepkhcbhcdaa
