/-
  No cell of these rows narrows 'for every input' (looked for: loops, veiled, ifaces, maps, wideKeys, modest, calm, conditions, laid).
  DERIVED. THE GIVEN ROWS OF THIS SEAT. 7 by the template 'for every input the law returns true; each argument reads behind the call as it read before'; 0 by the template 'total and deterministic' (their statements: YthhchccjpgpibaaTotals.lean).
  GIVEN WITH THE SEED: the statements are not yours to turn. If you find one false, say at which input.
  Laid BY PROGRAM, IN A SANDBOX (cutbox-rows.mjs): the forced cells as the released guide's own fill.sh prints them over the translation 93ce85b0c4bbd1d7… (all of the seat's roots in one cut). By AI agents, Wed Nov 11 2026. No macro, syntax, notation, axiom, sorry.
-/
import Derived.Test.YthhchccjpgpibaaChecked
import GoSem.Claim
import GoSem.ClaimJoined
import GoSem.ClaimMapViews
import Derived.JoinedTies
import Derived.KernelRfl
namespace Go.Proofs.Ythhchccjpgpibaa
/- THE CELL 'sum', in the pinned program and in every row, IS THE sha256 OF THE DUMP (.gsa) THAT YthhchccjpgpibaaProg.lean LOADS. Nothing in Lean hashes anything: it is a label: what it is worth is what the hold of that sum in a sandbox is worth. -/
noncomputable def Try.pinned : Pinned := { name := "ythhchccjpgpibaa", sum := "93ce85b0c4bbd1d739e07fa038ba4517919eb7d482ab28f5154fd20718163798", checked := Try.checked }
namespace Rows
def none {H : Type} : Left H := { results := [], args := [] }

/-- 'salvorlaw34.DiskCaches': WHATEVER THE INPUT: true; the input reads as it did. -/
def diskCachesSpec : ChangeSpec := { name := "diskCaches", fn := fun _ => fun
  | [d1, d2] => { results := [.lit (.bool true)], args := [d1, d2] }
  | _ => none }
def diskCachesRow : OpenClaim := { program := "ythhchccjpgpibaa", sum := "93ce85b0c4bbd1d739e07fa038ba4517919eb7d482ab28f5154fd20718163798", func := "salvor/salvorlaw34.DiskCaches", spec := "diskCaches", unfollowed := true, recurses := true, apart := false }
def DiskCachesSaid : Prop := diskCachesRow.holds Try.pinned (OpenSpec.ofChange diskCachesSpec)

/-- ITS FALSE NEIGHBOUR: 'it returns false'. Refute it at one input. -/
def diskCachesWrong : ChangeSpec := { name := "diskCaches", fn := fun _ => fun
  | [d1, d2] => { results := [.lit (.bool false)], args := [d1, d2] }
  | _ => none }
def DiskCachesWrongFalsely : Prop := diskCachesRow.holds Try.pinned (OpenSpec.ofChange diskCachesWrong)

/-- 'salvorlaw34.DiskWrong': WHATEVER THE INPUT: true; the input reads as it did. -/
def diskWrongSpec : ChangeSpec := { name := "diskWrong", fn := fun _ => fun
  | [d1, d2, d3] => { results := [.lit (.bool true)], args := [d1, d2, d3] }
  | _ => none }
def diskWrongRow : OpenClaim := { program := "ythhchccjpgpibaa", sum := "93ce85b0c4bbd1d739e07fa038ba4517919eb7d482ab28f5154fd20718163798", func := "salvor/salvorlaw34.DiskWrong", spec := "diskWrong", unfollowed := true, recurses := true, apart := false }
def DiskWrongSaid : Prop := diskWrongRow.holds Try.pinned (OpenSpec.ofChange diskWrongSpec)

/-- ITS FALSE NEIGHBOUR: 'it returns false'. Refute it at one input. -/
def diskWrongWrong : ChangeSpec := { name := "diskWrong", fn := fun _ => fun
  | [d1, d2, d3] => { results := [.lit (.bool false)], args := [d1, d2, d3] }
  | _ => none }
def DiskWrongWrongFalsely : Prop := diskWrongRow.holds Try.pinned (OpenSpec.ofChange diskWrongWrong)

/-- 'salvorlaw34.DiskReads': WHATEVER THE INPUT: true; the input reads as it did. -/
def diskReadsSpec : ChangeSpec := { name := "diskReads", fn := fun _ => fun
  | [d1, d2] => { results := [.lit (.bool true)], args := [d1, d2] }
  | _ => none }
def diskReadsRow : OpenClaim := { program := "ythhchccjpgpibaa", sum := "93ce85b0c4bbd1d739e07fa038ba4517919eb7d482ab28f5154fd20718163798", func := "salvor/salvorlaw34.DiskReads", spec := "diskReads", unfollowed := true, recurses := true, apart := false }
def DiskReadsSaid : Prop := diskReadsRow.holds Try.pinned (OpenSpec.ofChange diskReadsSpec)

/-- ITS FALSE NEIGHBOUR: 'it returns false'. Refute it at one input. -/
def diskReadsWrong : ChangeSpec := { name := "diskReads", fn := fun _ => fun
  | [d1, d2] => { results := [.lit (.bool false)], args := [d1, d2] }
  | _ => none }
def DiskReadsWrongFalsely : Prop := diskReadsRow.holds Try.pinned (OpenSpec.ofChange diskReadsWrong)

/-- 'salvorlaw34.DiskCopies': WHATEVER THE INPUT: true; the input reads as it did. -/
def diskCopiesSpec : ChangeSpec := { name := "diskCopies", fn := fun _ => fun
  | [d1, d2, d3] => { results := [.lit (.bool true)], args := [d1, d2, d3] }
  | _ => none }
def diskCopiesRow : OpenClaim := { program := "ythhchccjpgpibaa", sum := "93ce85b0c4bbd1d739e07fa038ba4517919eb7d482ab28f5154fd20718163798", func := "salvor/salvorlaw34.DiskCopies", spec := "diskCopies", unfollowed := true, recurses := true, apart := false }
def DiskCopiesSaid : Prop := diskCopiesRow.holds Try.pinned (OpenSpec.ofChange diskCopiesSpec)

/-- ITS FALSE NEIGHBOUR: 'it returns false'. Refute it at one input. -/
def diskCopiesWrong : ChangeSpec := { name := "diskCopies", fn := fun _ => fun
  | [d1, d2, d3] => { results := [.lit (.bool false)], args := [d1, d2, d3] }
  | _ => none }
def DiskCopiesWrongFalsely : Prop := diskCopiesRow.holds Try.pinned (OpenSpec.ofChange diskCopiesWrong)

/-- 'salvorlaw34.DiskDoes': WHATEVER THE INPUT: true; the input reads as it did. -/
def diskDoesSpec : ChangeSpec := { name := "diskDoes", fn := fun _ => fun
  | [d1, d2, d3, d4] => { results := [.lit (.bool true)], args := [d1, d2, d3, d4] }
  | _ => none }
def diskDoesRow : OpenClaim := { program := "ythhchccjpgpibaa", sum := "93ce85b0c4bbd1d739e07fa038ba4517919eb7d482ab28f5154fd20718163798", func := "salvor/salvorlaw34.DiskDoes", spec := "diskDoes", unfollowed := true, recurses := true, apart := false }
def DiskDoesSaid : Prop := diskDoesRow.holds Try.pinned (OpenSpec.ofChange diskDoesSpec)

/-- ITS FALSE NEIGHBOUR: 'it returns false'. Refute it at one input. -/
def diskDoesWrong : ChangeSpec := { name := "diskDoes", fn := fun _ => fun
  | [d1, d2, d3, d4] => { results := [.lit (.bool false)], args := [d1, d2, d3, d4] }
  | _ => none }
def DiskDoesWrongFalsely : Prop := diskDoesRow.holds Try.pinned (OpenSpec.ofChange diskDoesWrong)

/-- 'salvorlaw34.DiskSmall': WHATEVER THE INPUT: true; the input reads as it did. -/
def diskSmallSpec : ChangeSpec := { name := "diskSmall", fn := fun _ => fun
  | [] => { results := [.lit (.bool true)], args := [] }
  | _ => none }
def diskSmallRow : OpenClaim := { program := "ythhchccjpgpibaa", sum := "93ce85b0c4bbd1d739e07fa038ba4517919eb7d482ab28f5154fd20718163798", func := "salvor/salvorlaw34.DiskSmall", spec := "diskSmall", unfollowed := true, recurses := true, apart := false }
def DiskSmallSaid : Prop := diskSmallRow.holds Try.pinned (OpenSpec.ofChange diskSmallSpec)

/-- ITS FALSE NEIGHBOUR: 'it returns false'. Refute it at one input. -/
def diskSmallWrong : ChangeSpec := { name := "diskSmall", fn := fun _ => fun
  | [] => { results := [.lit (.bool false)], args := [] }
  | _ => none }
def DiskSmallWrongFalsely : Prop := diskSmallRow.holds Try.pinned (OpenSpec.ofChange diskSmallWrong)

/-- 'salvorlaw34.DiskBarriers': WHATEVER THE INPUT: true; the input reads as it did. -/
def diskBarriersSpec : ChangeSpec := { name := "diskBarriers", fn := fun _ => fun
  | [d1, d2] => { results := [.lit (.bool true)], args := [d1, d2] }
  | _ => none }
def diskBarriersRow : OpenClaim := { program := "ythhchccjpgpibaa", sum := "93ce85b0c4bbd1d739e07fa038ba4517919eb7d482ab28f5154fd20718163798", func := "salvor/salvorlaw34.DiskBarriers", spec := "diskBarriers", unfollowed := true, recurses := true, apart := false }
def DiskBarriersSaid : Prop := diskBarriersRow.holds Try.pinned (OpenSpec.ofChange diskBarriersSpec)

/-- ITS FALSE NEIGHBOUR: 'it returns false'. Refute it at one input. -/
def diskBarriersWrong : ChangeSpec := { name := "diskBarriers", fn := fun _ => fun
  | [d1, d2] => { results := [.lit (.bool false)], args := [d1, d2] }
  | _ => none }
def DiskBarriersWrongFalsely : Prop := diskBarriersRow.holds Try.pinned (OpenSpec.ofChange diskBarriersWrong)

/- THE SECOND FORM. 'bulk': how many values and letters a reading holds, each counted each time it is reached (what is shared counts as often as it is met; a slice's spare places count too). A statement '..UptoSaid' is the law's where the arguments, and the package variables that the reading takes, are together of bulk at most 1048576: NARROWER than '..Said'. Prove '..Said' where nothing that the law and all that it calls make is longer than what came in: it says more and counts as full. Else prove '..UptoSaid'. A law counts once. -/
mutual
def uptoBulk {H : Type} : DataW H → Nat
  | .lit (.string bytes) => bytes.length + 1
  | .lit _ => 1
  | .nil => 1
  | .ptr d => uptoBulk d + 1
  | .slice elems spare => uptoBulkAll elems + uptoBulkAll spare + 1
  | .agg parts => uptoBulkAll parts + 1
  | .iface _ d => uptoBulk d + 1
  | .map entries => uptoBulkEntries entries + 1
  | .held _ => 1
def uptoBulkAll {H : Type} : List (DataW H) → Nat
  | [] => 0
  | d :: r => uptoBulk d + uptoBulkAll r
def uptoBulkEntries {H : Type} : List (Lit × DataW H) → Nat
  | [] => 0
  | x :: r => uptoBulkEntry x + uptoBulkEntries r
def uptoBulkEntry {H : Type} : Lit × DataW H → Nat
  | (.string bytes, d) => bytes.length + uptoBulk d + 1
  | (_, d) => uptoBulk d + 1
 end
def uptoSmall : (H : Type) → List (DataW H) → Bool := fun _ ds => decide (uptoBulkAll ds ≤ 1048576)
def OpenSpec.upto (s : _root_.Go.ChangeSpec) : _root_.Go.OpenSpec := { _root_.Go.OpenSpec.ofChange s with cond := some uptoSmall }

/-- 'salvorlaw34.DiskCaches', WHERE WHAT IT READS IS OF BULK AT MOST 1048576: true; the input reads as it did. -/
def diskCachesUptoRow : OpenClaim := { program := "ythhchccjpgpibaa", sum := "93ce85b0c4bbd1d739e07fa038ba4517919eb7d482ab28f5154fd20718163798", func := "salvor/salvorlaw34.DiskCaches", spec := "diskCaches", unfollowed := true, recurses := true, apart := false, narrowed := true }
def DiskCachesUptoSaid : Prop := diskCachesUptoRow.holds Try.pinned (OpenSpec.upto diskCachesSpec)

/-- 'salvorlaw34.DiskWrong', WHERE WHAT IT READS IS OF BULK AT MOST 1048576: true; the input reads as it did. -/
def diskWrongUptoRow : OpenClaim := { program := "ythhchccjpgpibaa", sum := "93ce85b0c4bbd1d739e07fa038ba4517919eb7d482ab28f5154fd20718163798", func := "salvor/salvorlaw34.DiskWrong", spec := "diskWrong", unfollowed := true, recurses := true, apart := false, narrowed := true }
def DiskWrongUptoSaid : Prop := diskWrongUptoRow.holds Try.pinned (OpenSpec.upto diskWrongSpec)

/-- 'salvorlaw34.DiskReads', WHERE WHAT IT READS IS OF BULK AT MOST 1048576: true; the input reads as it did. -/
def diskReadsUptoRow : OpenClaim := { program := "ythhchccjpgpibaa", sum := "93ce85b0c4bbd1d739e07fa038ba4517919eb7d482ab28f5154fd20718163798", func := "salvor/salvorlaw34.DiskReads", spec := "diskReads", unfollowed := true, recurses := true, apart := false, narrowed := true }
def DiskReadsUptoSaid : Prop := diskReadsUptoRow.holds Try.pinned (OpenSpec.upto diskReadsSpec)

/-- 'salvorlaw34.DiskCopies', WHERE WHAT IT READS IS OF BULK AT MOST 1048576: true; the input reads as it did. -/
def diskCopiesUptoRow : OpenClaim := { program := "ythhchccjpgpibaa", sum := "93ce85b0c4bbd1d739e07fa038ba4517919eb7d482ab28f5154fd20718163798", func := "salvor/salvorlaw34.DiskCopies", spec := "diskCopies", unfollowed := true, recurses := true, apart := false, narrowed := true }
def DiskCopiesUptoSaid : Prop := diskCopiesUptoRow.holds Try.pinned (OpenSpec.upto diskCopiesSpec)

/-- 'salvorlaw34.DiskDoes', WHERE WHAT IT READS IS OF BULK AT MOST 1048576: true; the input reads as it did. -/
def diskDoesUptoRow : OpenClaim := { program := "ythhchccjpgpibaa", sum := "93ce85b0c4bbd1d739e07fa038ba4517919eb7d482ab28f5154fd20718163798", func := "salvor/salvorlaw34.DiskDoes", spec := "diskDoes", unfollowed := true, recurses := true, apart := false, narrowed := true }
def DiskDoesUptoSaid : Prop := diskDoesUptoRow.holds Try.pinned (OpenSpec.upto diskDoesSpec)

/-- 'salvorlaw34.DiskSmall', WHERE WHAT IT READS IS OF BULK AT MOST 1048576: true; the input reads as it did. -/
def diskSmallUptoRow : OpenClaim := { program := "ythhchccjpgpibaa", sum := "93ce85b0c4bbd1d739e07fa038ba4517919eb7d482ab28f5154fd20718163798", func := "salvor/salvorlaw34.DiskSmall", spec := "diskSmall", unfollowed := true, recurses := true, apart := false, narrowed := true }
def DiskSmallUptoSaid : Prop := diskSmallUptoRow.holds Try.pinned (OpenSpec.upto diskSmallSpec)

/-- 'salvorlaw34.DiskBarriers', WHERE WHAT IT READS IS OF BULK AT MOST 1048576: true; the input reads as it did. -/
def diskBarriersUptoRow : OpenClaim := { program := "ythhchccjpgpibaa", sum := "93ce85b0c4bbd1d739e07fa038ba4517919eb7d482ab28f5154fd20718163798", func := "salvor/salvorlaw34.DiskBarriers", spec := "diskBarriers", unfollowed := true, recurses := true, apart := false, narrowed := true }
def DiskBarriersUptoSaid : Prop := diskBarriersUptoRow.holds Try.pinned (OpenSpec.upto diskBarriersSpec)

end Rows
end Go.Proofs.Ythhchccjpgpibaa
