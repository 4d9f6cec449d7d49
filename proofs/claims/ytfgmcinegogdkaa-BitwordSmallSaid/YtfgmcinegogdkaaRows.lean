/-
  No cell of these rows narrows 'for every input' (looked for: loops, veiled, ifaces, maps, wideKeys, modest, calm, conditions, laid).
  DERIVED. THE GIVEN ROWS OF THIS SEAT. 8 by the template 'for every input the law returns true; each argument reads behind the call as it read before'; 0 by the template 'total and deterministic' (their statements: YtfgmcinegogdkaaTotals.lean).
  GIVEN WITH THE SEED: the statements are not yours to turn. If you find one false, say at which input.
  Laid BY PROGRAM, IN A SANDBOX (cutbox-rows.mjs): the forced cells as the released guide's own fill.sh prints them over the translation bcc37398c5b31da8… (all of the seat's roots in one cut). By AI agents, Wed Nov 11 2026. No macro, syntax, notation, axiom, sorry.
-/
import Derived.Test.YtfgmcinegogdkaaChecked
import GoSem.Claim
import GoSem.ClaimJoined
import GoSem.ClaimMapViews
import Derived.JoinedTies
import Derived.KernelRfl
namespace Go.Proofs.Ytfgmcinegogdkaa
/- THE CELL 'sum', in the pinned program and in every row, IS THE sha256 OF THE DUMP (.gsa) THAT YtfgmcinegogdkaaProg.lean LOADS. Nothing in Lean hashes anything: it is a label: what it is worth is what the hold of that sum in a sandbox is worth. -/
noncomputable def Try.pinned : Pinned := { name := "ytfgmcinegogdkaa", sum := "bcc37398c5b31da827e3c78ecc9c1fb1cd9ae550b0b9e24e5fc25358ac5f3df7", checked := Try.checked }
namespace Rows
def none {H : Type} : Left H := { results := [], args := [] }

/-- 'salvorlaw22.BitwordRing': WHATEVER THE INPUT: true; the input reads as it did. -/
def bitwordRingSpec : ChangeSpec := { name := "bitwordRing", fn := fun _ => fun
  | [d1, d2, d3, d4] => { results := [.lit (.bool true)], args := [d1, d2, d3, d4] }
  | _ => none }
def bitwordRingRow : OpenClaim := { program := "ytfgmcinegogdkaa", sum := "bcc37398c5b31da827e3c78ecc9c1fb1cd9ae550b0b9e24e5fc25358ac5f3df7", func := "salvor/salvorlaw22.BitwordRing", spec := "bitwordRing", unfollowed := true, recurses := true, apart := false }
def BitwordRingSaid : Prop := bitwordRingRow.holds Try.pinned (OpenSpec.ofChange bitwordRingSpec)

/-- ITS FALSE NEIGHBOUR: 'it returns false'. Refute it at one input. -/
def bitwordRingWrong : ChangeSpec := { name := "bitwordRing", fn := fun _ => fun
  | [d1, d2, d3, d4] => { results := [.lit (.bool false)], args := [d1, d2, d3, d4] }
  | _ => none }
def BitwordRingWrongFalsely : Prop := bitwordRingRow.holds Try.pinned (OpenSpec.ofChange bitwordRingWrong)

/-- 'salvorlaw22.BitwordDivides': WHATEVER THE INPUT: true; the input reads as it did. -/
def bitwordDividesSpec : ChangeSpec := { name := "bitwordDivides", fn := fun _ => fun
  | [d1, d2, d3] => { results := [.lit (.bool true)], args := [d1, d2, d3] }
  | _ => none }
def bitwordDividesRow : OpenClaim := { program := "ytfgmcinegogdkaa", sum := "bcc37398c5b31da827e3c78ecc9c1fb1cd9ae550b0b9e24e5fc25358ac5f3df7", func := "salvor/salvorlaw22.BitwordDivides", spec := "bitwordDivides", unfollowed := true, recurses := true, apart := false }
def BitwordDividesSaid : Prop := bitwordDividesRow.holds Try.pinned (OpenSpec.ofChange bitwordDividesSpec)

/-- ITS FALSE NEIGHBOUR: 'it returns false'. Refute it at one input. -/
def bitwordDividesWrong : ChangeSpec := { name := "bitwordDivides", fn := fun _ => fun
  | [d1, d2, d3] => { results := [.lit (.bool false)], args := [d1, d2, d3] }
  | _ => none }
def BitwordDividesWrongFalsely : Prop := bitwordDividesRow.holds Try.pinned (OpenSpec.ofChange bitwordDividesWrong)

/-- 'salvorlaw22.BitwordNames': WHATEVER THE INPUT: true; the input reads as it did. -/
def bitwordNamesSpec : ChangeSpec := { name := "bitwordNames", fn := fun _ => fun
  | [d1, d2, d3, d4] => { results := [.lit (.bool true)], args := [d1, d2, d3, d4] }
  | _ => none }
def bitwordNamesRow : OpenClaim := { program := "ytfgmcinegogdkaa", sum := "bcc37398c5b31da827e3c78ecc9c1fb1cd9ae550b0b9e24e5fc25358ac5f3df7", func := "salvor/salvorlaw22.BitwordNames", spec := "bitwordNames", unfollowed := true, recurses := true, apart := false }
def BitwordNamesSaid : Prop := bitwordNamesRow.holds Try.pinned (OpenSpec.ofChange bitwordNamesSpec)

/-- ITS FALSE NEIGHBOUR: 'it returns false'. Refute it at one input. -/
def bitwordNamesWrong : ChangeSpec := { name := "bitwordNames", fn := fun _ => fun
  | [d1, d2, d3, d4] => { results := [.lit (.bool false)], args := [d1, d2, d3, d4] }
  | _ => none }
def BitwordNamesWrongFalsely : Prop := bitwordNamesRow.holds Try.pinned (OpenSpec.ofChange bitwordNamesWrong)

/-- 'salvorlaw22.BitwordTells': WHATEVER THE INPUT: true; the input reads as it did. -/
def bitwordTellsSpec : ChangeSpec := { name := "bitwordTells", fn := fun _ => fun
  | [d1, d2, d3, d4, d5] => { results := [.lit (.bool true)], args := [d1, d2, d3, d4, d5] }
  | _ => none }
def bitwordTellsRow : OpenClaim := { program := "ytfgmcinegogdkaa", sum := "bcc37398c5b31da827e3c78ecc9c1fb1cd9ae550b0b9e24e5fc25358ac5f3df7", func := "salvor/salvorlaw22.BitwordTells", spec := "bitwordTells", unfollowed := true, recurses := true, apart := false }
def BitwordTellsSaid : Prop := bitwordTellsRow.holds Try.pinned (OpenSpec.ofChange bitwordTellsSpec)

/-- ITS FALSE NEIGHBOUR: 'it returns false'. Refute it at one input. -/
def bitwordTellsWrong : ChangeSpec := { name := "bitwordTells", fn := fun _ => fun
  | [d1, d2, d3, d4, d5] => { results := [.lit (.bool false)], args := [d1, d2, d3, d4, d5] }
  | _ => none }
def BitwordTellsWrongFalsely : Prop := bitwordTellsRow.holds Try.pinned (OpenSpec.ofChange bitwordTellsWrong)

/-- 'salvorlaw22.BitwordOrders': WHATEVER THE INPUT: true; the input reads as it did. -/
def bitwordOrdersSpec : ChangeSpec := { name := "bitwordOrders", fn := fun _ => fun
  | [d1, d2, d3, d4] => { results := [.lit (.bool true)], args := [d1, d2, d3, d4] }
  | _ => none }
def bitwordOrdersRow : OpenClaim := { program := "ytfgmcinegogdkaa", sum := "bcc37398c5b31da827e3c78ecc9c1fb1cd9ae550b0b9e24e5fc25358ac5f3df7", func := "salvor/salvorlaw22.BitwordOrders", spec := "bitwordOrders", unfollowed := true, recurses := true, apart := false }
def BitwordOrdersSaid : Prop := bitwordOrdersRow.holds Try.pinned (OpenSpec.ofChange bitwordOrdersSpec)

/-- ITS FALSE NEIGHBOUR: 'it returns false'. Refute it at one input. -/
def bitwordOrdersWrong : ChangeSpec := { name := "bitwordOrders", fn := fun _ => fun
  | [d1, d2, d3, d4] => { results := [.lit (.bool false)], args := [d1, d2, d3, d4] }
  | _ => none }
def BitwordOrdersWrongFalsely : Prop := bitwordOrdersRow.holds Try.pinned (OpenSpec.ofChange bitwordOrdersWrong)

/-- 'salvorlaw22.BitwordCuts': WHATEVER THE INPUT: true; the input reads as it did. -/
def bitwordCutsSpec : ChangeSpec := { name := "bitwordCuts", fn := fun _ => fun
  | [d1, d2, d3, d4, d5] => { results := [.lit (.bool true)], args := [d1, d2, d3, d4, d5] }
  | _ => none }
def bitwordCutsRow : OpenClaim := { program := "ytfgmcinegogdkaa", sum := "bcc37398c5b31da827e3c78ecc9c1fb1cd9ae550b0b9e24e5fc25358ac5f3df7", func := "salvor/salvorlaw22.BitwordCuts", spec := "bitwordCuts", unfollowed := true, recurses := true, apart := false }
def BitwordCutsSaid : Prop := bitwordCutsRow.holds Try.pinned (OpenSpec.ofChange bitwordCutsSpec)

/-- ITS FALSE NEIGHBOUR: 'it returns false'. Refute it at one input. -/
def bitwordCutsWrong : ChangeSpec := { name := "bitwordCuts", fn := fun _ => fun
  | [d1, d2, d3, d4, d5] => { results := [.lit (.bool false)], args := [d1, d2, d3, d4, d5] }
  | _ => none }
def BitwordCutsWrongFalsely : Prop := bitwordCutsRow.holds Try.pinned (OpenSpec.ofChange bitwordCutsWrong)

/-- 'salvorlaw22.BitwordSmall': WHATEVER THE INPUT: true; the input reads as it did. -/
def bitwordSmallSpec : ChangeSpec := { name := "bitwordSmall", fn := fun _ => fun
  | [] => { results := [.lit (.bool true)], args := [] }
  | _ => none }
def bitwordSmallRow : OpenClaim := { program := "ytfgmcinegogdkaa", sum := "bcc37398c5b31da827e3c78ecc9c1fb1cd9ae550b0b9e24e5fc25358ac5f3df7", func := "salvor/salvorlaw22.BitwordSmall", spec := "bitwordSmall", unfollowed := true, recurses := true, apart := false }
def BitwordSmallSaid : Prop := bitwordSmallRow.holds Try.pinned (OpenSpec.ofChange bitwordSmallSpec)

/-- ITS FALSE NEIGHBOUR: 'it returns false'. Refute it at one input. -/
def bitwordSmallWrong : ChangeSpec := { name := "bitwordSmall", fn := fun _ => fun
  | [] => { results := [.lit (.bool false)], args := [] }
  | _ => none }
def BitwordSmallWrongFalsely : Prop := bitwordSmallRow.holds Try.pinned (OpenSpec.ofChange bitwordSmallWrong)

/-- 'salvorlaw22.BitwordWrong': WHATEVER THE INPUT: true; the input reads as it did. -/
def bitwordWrongSpec : ChangeSpec := { name := "bitwordWrong", fn := fun _ => fun
  | [d1, d2, d3, d4] => { results := [.lit (.bool true)], args := [d1, d2, d3, d4] }
  | _ => none }
def bitwordWrongRow : OpenClaim := { program := "ytfgmcinegogdkaa", sum := "bcc37398c5b31da827e3c78ecc9c1fb1cd9ae550b0b9e24e5fc25358ac5f3df7", func := "salvor/salvorlaw22.BitwordWrong", spec := "bitwordWrong", unfollowed := true, recurses := true, apart := false }
def BitwordWrongSaid : Prop := bitwordWrongRow.holds Try.pinned (OpenSpec.ofChange bitwordWrongSpec)

/-- ITS FALSE NEIGHBOUR: 'it returns false'. Refute it at one input. -/
def bitwordWrongWrong : ChangeSpec := { name := "bitwordWrong", fn := fun _ => fun
  | [d1, d2, d3, d4] => { results := [.lit (.bool false)], args := [d1, d2, d3, d4] }
  | _ => none }
def BitwordWrongWrongFalsely : Prop := bitwordWrongRow.holds Try.pinned (OpenSpec.ofChange bitwordWrongWrong)

/- THE SECOND FORM. 'bulk': how many values and letters a reading holds, each counted each time it is reached (what is shared counts as often as it is met; a slice's spare places count too). A statement '..UptoSaid' is the law's where the arguments, and the package variables that the reading takes, are together of bulk at most 1048576: NARROWER than '..Said'. Prove '..Said' where nothing that the law and all that it calls make is longer than what came in: it says more and counts as full. Else prove '..UptoSaid'. A law counts once. -/
mutual
def uptoBulk {H : Type} : DataW H → Nat
  | .lit (.string bytes) => bytes.length + 1
  | .lit _ => 1
  | .nil => 1
  | .ptr d => uptoBulk d + 1
  | .slice elems spare => uptoBulkAll elems + uptoBulkAll spare + 1
  | .agg parts => uptoBulkAll parts + 1
  | .iface _ d => uptoBulk d + 1
  | .map entries => uptoBulkEntries entries + 1
  | .held _ => 1
def uptoBulkAll {H : Type} : List (DataW H) → Nat
  | [] => 0
  | d :: r => uptoBulk d + uptoBulkAll r
def uptoBulkEntries {H : Type} : List (Lit × DataW H) → Nat
  | [] => 0
  | x :: r => uptoBulkEntry x + uptoBulkEntries r
def uptoBulkEntry {H : Type} : Lit × DataW H → Nat
  | (.string bytes, d) => bytes.length + uptoBulk d + 1
  | (_, d) => uptoBulk d + 1
 end
def uptoSmall : (H : Type) → List (DataW H) → Bool := fun _ ds => decide (uptoBulkAll ds ≤ 1048576)
def OpenSpec.upto (s : _root_.Go.ChangeSpec) : _root_.Go.OpenSpec := { _root_.Go.OpenSpec.ofChange s with cond := some uptoSmall }

/-- 'salvorlaw22.BitwordRing', WHERE WHAT IT READS IS OF BULK AT MOST 1048576: true; the input reads as it did. -/
def bitwordRingUptoRow : OpenClaim := { program := "ytfgmcinegogdkaa", sum := "bcc37398c5b31da827e3c78ecc9c1fb1cd9ae550b0b9e24e5fc25358ac5f3df7", func := "salvor/salvorlaw22.BitwordRing", spec := "bitwordRing", unfollowed := true, recurses := true, apart := false, narrowed := true }
def BitwordRingUptoSaid : Prop := bitwordRingUptoRow.holds Try.pinned (OpenSpec.upto bitwordRingSpec)

/-- 'salvorlaw22.BitwordDivides', WHERE WHAT IT READS IS OF BULK AT MOST 1048576: true; the input reads as it did. -/
def bitwordDividesUptoRow : OpenClaim := { program := "ytfgmcinegogdkaa", sum := "bcc37398c5b31da827e3c78ecc9c1fb1cd9ae550b0b9e24e5fc25358ac5f3df7", func := "salvor/salvorlaw22.BitwordDivides", spec := "bitwordDivides", unfollowed := true, recurses := true, apart := false, narrowed := true }
def BitwordDividesUptoSaid : Prop := bitwordDividesUptoRow.holds Try.pinned (OpenSpec.upto bitwordDividesSpec)

/-- 'salvorlaw22.BitwordNames', WHERE WHAT IT READS IS OF BULK AT MOST 1048576: true; the input reads as it did. -/
def bitwordNamesUptoRow : OpenClaim := { program := "ytfgmcinegogdkaa", sum := "bcc37398c5b31da827e3c78ecc9c1fb1cd9ae550b0b9e24e5fc25358ac5f3df7", func := "salvor/salvorlaw22.BitwordNames", spec := "bitwordNames", unfollowed := true, recurses := true, apart := false, narrowed := true }
def BitwordNamesUptoSaid : Prop := bitwordNamesUptoRow.holds Try.pinned (OpenSpec.upto bitwordNamesSpec)

/-- 'salvorlaw22.BitwordTells', WHERE WHAT IT READS IS OF BULK AT MOST 1048576: true; the input reads as it did. -/
def bitwordTellsUptoRow : OpenClaim := { program := "ytfgmcinegogdkaa", sum := "bcc37398c5b31da827e3c78ecc9c1fb1cd9ae550b0b9e24e5fc25358ac5f3df7", func := "salvor/salvorlaw22.BitwordTells", spec := "bitwordTells", unfollowed := true, recurses := true, apart := false, narrowed := true }
def BitwordTellsUptoSaid : Prop := bitwordTellsUptoRow.holds Try.pinned (OpenSpec.upto bitwordTellsSpec)

/-- 'salvorlaw22.BitwordOrders', WHERE WHAT IT READS IS OF BULK AT MOST 1048576: true; the input reads as it did. -/
def bitwordOrdersUptoRow : OpenClaim := { program := "ytfgmcinegogdkaa", sum := "bcc37398c5b31da827e3c78ecc9c1fb1cd9ae550b0b9e24e5fc25358ac5f3df7", func := "salvor/salvorlaw22.BitwordOrders", spec := "bitwordOrders", unfollowed := true, recurses := true, apart := false, narrowed := true }
def BitwordOrdersUptoSaid : Prop := bitwordOrdersUptoRow.holds Try.pinned (OpenSpec.upto bitwordOrdersSpec)

/-- 'salvorlaw22.BitwordCuts', WHERE WHAT IT READS IS OF BULK AT MOST 1048576: true; the input reads as it did. -/
def bitwordCutsUptoRow : OpenClaim := { program := "ytfgmcinegogdkaa", sum := "bcc37398c5b31da827e3c78ecc9c1fb1cd9ae550b0b9e24e5fc25358ac5f3df7", func := "salvor/salvorlaw22.BitwordCuts", spec := "bitwordCuts", unfollowed := true, recurses := true, apart := false, narrowed := true }
def BitwordCutsUptoSaid : Prop := bitwordCutsUptoRow.holds Try.pinned (OpenSpec.upto bitwordCutsSpec)

/-- 'salvorlaw22.BitwordSmall', WHERE WHAT IT READS IS OF BULK AT MOST 1048576: true; the input reads as it did. -/
def bitwordSmallUptoRow : OpenClaim := { program := "ytfgmcinegogdkaa", sum := "bcc37398c5b31da827e3c78ecc9c1fb1cd9ae550b0b9e24e5fc25358ac5f3df7", func := "salvor/salvorlaw22.BitwordSmall", spec := "bitwordSmall", unfollowed := true, recurses := true, apart := false, narrowed := true }
def BitwordSmallUptoSaid : Prop := bitwordSmallUptoRow.holds Try.pinned (OpenSpec.upto bitwordSmallSpec)

/-- 'salvorlaw22.BitwordWrong', WHERE WHAT IT READS IS OF BULK AT MOST 1048576: true; the input reads as it did. -/
def bitwordWrongUptoRow : OpenClaim := { program := "ytfgmcinegogdkaa", sum := "bcc37398c5b31da827e3c78ecc9c1fb1cd9ae550b0b9e24e5fc25358ac5f3df7", func := "salvor/salvorlaw22.BitwordWrong", spec := "bitwordWrong", unfollowed := true, recurses := true, apart := false, narrowed := true }
def BitwordWrongUptoSaid : Prop := bitwordWrongUptoRow.holds Try.pinned (OpenSpec.upto bitwordWrongSpec)

end Rows
end Go.Proofs.Ytfgmcinegogdkaa
