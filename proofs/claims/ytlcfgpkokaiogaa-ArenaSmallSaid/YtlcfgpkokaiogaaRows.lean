/-
  No cell of these rows narrows 'for every input' (looked for: loops, veiled, ifaces, maps, wideKeys, modest, calm, conditions, laid).
  DERIVED. THE GIVEN ROWS OF THIS SEAT. 7 by the template 'for every input the law returns true; each argument reads behind the call as it read before'; 0 by the template 'total and deterministic' (their statements: YtlcfgpkokaiogaaTotals.lean).
  GIVEN WITH THE SEED: the statements are not yours to turn. If you find one false, say at which input.
  Laid BY PROGRAM, IN A SANDBOX (cutbox-rows.mjs): the forced cells as the released guide's own fill.sh prints them over the translation 8de06bbd4b392470… (all of the seat's roots in one cut). By AI agents, Wed Nov 11 2026. No macro, syntax, notation, axiom, sorry.
-/
import Derived.Test.YtlcfgpkokaiogaaChecked
import GoSem.Claim
import GoSem.ClaimJoined
import GoSem.ClaimMapViews
import Derived.JoinedTies
import Derived.KernelRfl
namespace Go.Proofs.Ytlcfgpkokaiogaa
/- THE CELL 'sum', in the pinned program and in every row, IS THE sha256 OF THE DUMP (.gsa) THAT YtlcfgpkokaiogaaProg.lean LOADS. Nothing in Lean hashes anything: it is a label: what it is worth is what the hold of that sum in a sandbox is worth. -/
noncomputable def Try.pinned : Pinned := { name := "ytlcfgpkokaiogaa", sum := "8de06bbd4b392470dd560147cc748f3a0bd11e12279f8581f2404985ae5e0006", checked := Try.checked }
namespace Rows
def none {H : Type} : Left H := { results := [], args := [] }

/-- 'salvorlaw03.ArenaPlays': WHATEVER THE INPUT: true; the input reads as it did. -/
def arenaPlaysSpec : ChangeSpec := { name := "arenaPlays", fn := fun _ => fun
  | [d] => { results := [.lit (.bool true)], args := [d] }
  | _ => none }
def arenaPlaysRow : OpenClaim := { program := "ytlcfgpkokaiogaa", sum := "8de06bbd4b392470dd560147cc748f3a0bd11e12279f8581f2404985ae5e0006", func := "salvor/salvorlaw03.ArenaPlays", spec := "arenaPlays", unfollowed := true, recurses := true, apart := false }
def ArenaPlaysSaid : Prop := arenaPlaysRow.holds Try.pinned (OpenSpec.ofChange arenaPlaysSpec)

/-- ITS FALSE NEIGHBOUR: 'it returns false'. Refute it at one input. -/
def arenaPlaysWrong : ChangeSpec := { name := "arenaPlays", fn := fun _ => fun
  | [d] => { results := [.lit (.bool false)], args := [d] }
  | _ => none }
def ArenaPlaysWrongFalsely : Prop := arenaPlaysRow.holds Try.pinned (OpenSpec.ofChange arenaPlaysWrong)

/-- 'salvorlaw03.ArenaSmall': WHATEVER THE INPUT: true; the input reads as it did. -/
def arenaSmallSpec : ChangeSpec := { name := "arenaSmall", fn := fun _ => fun
  | [] => { results := [.lit (.bool true)], args := [] }
  | _ => none }
def arenaSmallRow : OpenClaim := { program := "ytlcfgpkokaiogaa", sum := "8de06bbd4b392470dd560147cc748f3a0bd11e12279f8581f2404985ae5e0006", func := "salvor/salvorlaw03.ArenaSmall", spec := "arenaSmall", unfollowed := true, recurses := true, apart := false }
def ArenaSmallSaid : Prop := arenaSmallRow.holds Try.pinned (OpenSpec.ofChange arenaSmallSpec)

/-- ITS FALSE NEIGHBOUR: 'it returns false'. Refute it at one input. -/
def arenaSmallWrong : ChangeSpec := { name := "arenaSmall", fn := fun _ => fun
  | [] => { results := [.lit (.bool false)], args := [] }
  | _ => none }
def ArenaSmallWrongFalsely : Prop := arenaSmallRow.holds Try.pinned (OpenSpec.ofChange arenaSmallWrong)

/-- 'salvorlaw03.ArenaStays': WHATEVER THE INPUT: true; the input reads as it did. -/
def arenaStaysSpec : ChangeSpec := { name := "arenaStays", fn := fun _ => fun
  | [d1, d2] => { results := [.lit (.bool true)], args := [d1, d2] }
  | _ => none }
def arenaStaysRow : OpenClaim := { program := "ytlcfgpkokaiogaa", sum := "8de06bbd4b392470dd560147cc748f3a0bd11e12279f8581f2404985ae5e0006", func := "salvor/salvorlaw03.ArenaStays", spec := "arenaStays", unfollowed := true, recurses := true, apart := false }
def ArenaStaysSaid : Prop := arenaStaysRow.holds Try.pinned (OpenSpec.ofChange arenaStaysSpec)

/-- ITS FALSE NEIGHBOUR: 'it returns false'. Refute it at one input. -/
def arenaStaysWrong : ChangeSpec := { name := "arenaStays", fn := fun _ => fun
  | [d1, d2] => { results := [.lit (.bool false)], args := [d1, d2] }
  | _ => none }
def ArenaStaysWrongFalsely : Prop := arenaStaysRow.holds Try.pinned (OpenSpec.ofChange arenaStaysWrong)

/-- 'salvorlaw03.ArenaYields': WHATEVER THE INPUT: true; the input reads as it did. -/
def arenaYieldsSpec : ChangeSpec := { name := "arenaYields", fn := fun _ => fun
  | [d1, d2, d3, d4] => { results := [.lit (.bool true)], args := [d1, d2, d3, d4] }
  | _ => none }
def arenaYieldsRow : OpenClaim := { program := "ytlcfgpkokaiogaa", sum := "8de06bbd4b392470dd560147cc748f3a0bd11e12279f8581f2404985ae5e0006", func := "salvor/salvorlaw03.ArenaYields", spec := "arenaYields", unfollowed := true, recurses := true, apart := false }
def ArenaYieldsSaid : Prop := arenaYieldsRow.holds Try.pinned (OpenSpec.ofChange arenaYieldsSpec)

/-- ITS FALSE NEIGHBOUR: 'it returns false'. Refute it at one input. -/
def arenaYieldsWrong : ChangeSpec := { name := "arenaYields", fn := fun _ => fun
  | [d1, d2, d3, d4] => { results := [.lit (.bool false)], args := [d1, d2, d3, d4] }
  | _ => none }
def ArenaYieldsWrongFalsely : Prop := arenaYieldsRow.holds Try.pinned (OpenSpec.ofChange arenaYieldsWrong)

/-- 'salvorlaw03.ArenaOnce': WHATEVER THE INPUT: true; the input reads as it did. -/
def arenaOnceSpec : ChangeSpec := { name := "arenaOnce", fn := fun _ => fun
  | [d1, d2, d3] => { results := [.lit (.bool true)], args := [d1, d2, d3] }
  | _ => none }
def arenaOnceRow : OpenClaim := { program := "ytlcfgpkokaiogaa", sum := "8de06bbd4b392470dd560147cc748f3a0bd11e12279f8581f2404985ae5e0006", func := "salvor/salvorlaw03.ArenaOnce", spec := "arenaOnce", unfollowed := true, recurses := true, apart := false }
def ArenaOnceSaid : Prop := arenaOnceRow.holds Try.pinned (OpenSpec.ofChange arenaOnceSpec)

/-- ITS FALSE NEIGHBOUR: 'it returns false'. Refute it at one input. -/
def arenaOnceWrong : ChangeSpec := { name := "arenaOnce", fn := fun _ => fun
  | [d1, d2, d3] => { results := [.lit (.bool false)], args := [d1, d2, d3] }
  | _ => none }
def ArenaOnceWrongFalsely : Prop := arenaOnceRow.holds Try.pinned (OpenSpec.ofChange arenaOnceWrong)

/-- 'salvorlaw03.ArenaLits': WHATEVER THE INPUT: true; the input reads as it did. -/
def arenaLitsSpec : ChangeSpec := { name := "arenaLits", fn := fun _ => fun
  | [d1, d2, d3] => { results := [.lit (.bool true)], args := [d1, d2, d3] }
  | _ => none }
def arenaLitsRow : OpenClaim := { program := "ytlcfgpkokaiogaa", sum := "8de06bbd4b392470dd560147cc748f3a0bd11e12279f8581f2404985ae5e0006", func := "salvor/salvorlaw03.ArenaLits", spec := "arenaLits", unfollowed := true, recurses := true, apart := false }
def ArenaLitsSaid : Prop := arenaLitsRow.holds Try.pinned (OpenSpec.ofChange arenaLitsSpec)

/-- ITS FALSE NEIGHBOUR: 'it returns false'. Refute it at one input. -/
def arenaLitsWrong : ChangeSpec := { name := "arenaLits", fn := fun _ => fun
  | [d1, d2, d3] => { results := [.lit (.bool false)], args := [d1, d2, d3] }
  | _ => none }
def ArenaLitsWrongFalsely : Prop := arenaLitsRow.holds Try.pinned (OpenSpec.ofChange arenaLitsWrong)

/-- 'salvorlaw03.ArenaWrong': WHATEVER THE INPUT: true; the input reads as it did. -/
def arenaWrongSpec : ChangeSpec := { name := "arenaWrong", fn := fun _ => fun
  | [d1, d2] => { results := [.lit (.bool true)], args := [d1, d2] }
  | _ => none }
def arenaWrongRow : OpenClaim := { program := "ytlcfgpkokaiogaa", sum := "8de06bbd4b392470dd560147cc748f3a0bd11e12279f8581f2404985ae5e0006", func := "salvor/salvorlaw03.ArenaWrong", spec := "arenaWrong", unfollowed := true, recurses := true, apart := false }
def ArenaWrongSaid : Prop := arenaWrongRow.holds Try.pinned (OpenSpec.ofChange arenaWrongSpec)

/-- ITS FALSE NEIGHBOUR: 'it returns false'. Refute it at one input. -/
def arenaWrongWrong : ChangeSpec := { name := "arenaWrong", fn := fun _ => fun
  | [d1, d2] => { results := [.lit (.bool false)], args := [d1, d2] }
  | _ => none }
def ArenaWrongWrongFalsely : Prop := arenaWrongRow.holds Try.pinned (OpenSpec.ofChange arenaWrongWrong)

/- THE SECOND FORM. 'bulk': how many values and letters a reading holds, each counted each time it is reached (what is shared counts as often as it is met; a slice's spare places count too). A statement '..UptoSaid' is the law's where the arguments, and the package variables that the reading takes, are together of bulk at most 1048576: NARROWER than '..Said'. Prove '..Said' where nothing that the law and all that it calls make is longer than what came in: it says more and counts as full. Else prove '..UptoSaid'. A law counts once. -/
mutual
def uptoBulk {H : Type} : DataW H → Nat
  | .lit (.string bytes) => bytes.length + 1
  | .lit _ => 1
  | .nil => 1
  | .ptr d => uptoBulk d + 1
  | .slice elems spare => uptoBulkAll elems + uptoBulkAll spare + 1
  | .agg parts => uptoBulkAll parts + 1
  | .iface _ d => uptoBulk d + 1
  | .map entries => uptoBulkEntries entries + 1
  | .held _ => 1
def uptoBulkAll {H : Type} : List (DataW H) → Nat
  | [] => 0
  | d :: r => uptoBulk d + uptoBulkAll r
def uptoBulkEntries {H : Type} : List (Lit × DataW H) → Nat
  | [] => 0
  | x :: r => uptoBulkEntry x + uptoBulkEntries r
def uptoBulkEntry {H : Type} : Lit × DataW H → Nat
  | (.string bytes, d) => bytes.length + uptoBulk d + 1
  | (_, d) => uptoBulk d + 1
 end
def uptoSmall : (H : Type) → List (DataW H) → Bool := fun _ ds => decide (uptoBulkAll ds ≤ 1048576)
def OpenSpec.upto (s : _root_.Go.ChangeSpec) : _root_.Go.OpenSpec := { _root_.Go.OpenSpec.ofChange s with cond := some uptoSmall }

/-- 'salvorlaw03.ArenaPlays', WHERE WHAT IT READS IS OF BULK AT MOST 1048576: true; the input reads as it did. -/
def arenaPlaysUptoRow : OpenClaim := { program := "ytlcfgpkokaiogaa", sum := "8de06bbd4b392470dd560147cc748f3a0bd11e12279f8581f2404985ae5e0006", func := "salvor/salvorlaw03.ArenaPlays", spec := "arenaPlays", unfollowed := true, recurses := true, apart := false, narrowed := true }
def ArenaPlaysUptoSaid : Prop := arenaPlaysUptoRow.holds Try.pinned (OpenSpec.upto arenaPlaysSpec)

/-- 'salvorlaw03.ArenaSmall', WHERE WHAT IT READS IS OF BULK AT MOST 1048576: true; the input reads as it did. -/
def arenaSmallUptoRow : OpenClaim := { program := "ytlcfgpkokaiogaa", sum := "8de06bbd4b392470dd560147cc748f3a0bd11e12279f8581f2404985ae5e0006", func := "salvor/salvorlaw03.ArenaSmall", spec := "arenaSmall", unfollowed := true, recurses := true, apart := false, narrowed := true }
def ArenaSmallUptoSaid : Prop := arenaSmallUptoRow.holds Try.pinned (OpenSpec.upto arenaSmallSpec)

/-- 'salvorlaw03.ArenaStays', WHERE WHAT IT READS IS OF BULK AT MOST 1048576: true; the input reads as it did. -/
def arenaStaysUptoRow : OpenClaim := { program := "ytlcfgpkokaiogaa", sum := "8de06bbd4b392470dd560147cc748f3a0bd11e12279f8581f2404985ae5e0006", func := "salvor/salvorlaw03.ArenaStays", spec := "arenaStays", unfollowed := true, recurses := true, apart := false, narrowed := true }
def ArenaStaysUptoSaid : Prop := arenaStaysUptoRow.holds Try.pinned (OpenSpec.upto arenaStaysSpec)

/-- 'salvorlaw03.ArenaYields', WHERE WHAT IT READS IS OF BULK AT MOST 1048576: true; the input reads as it did. -/
def arenaYieldsUptoRow : OpenClaim := { program := "ytlcfgpkokaiogaa", sum := "8de06bbd4b392470dd560147cc748f3a0bd11e12279f8581f2404985ae5e0006", func := "salvor/salvorlaw03.ArenaYields", spec := "arenaYields", unfollowed := true, recurses := true, apart := false, narrowed := true }
def ArenaYieldsUptoSaid : Prop := arenaYieldsUptoRow.holds Try.pinned (OpenSpec.upto arenaYieldsSpec)

/-- 'salvorlaw03.ArenaOnce', WHERE WHAT IT READS IS OF BULK AT MOST 1048576: true; the input reads as it did. -/
def arenaOnceUptoRow : OpenClaim := { program := "ytlcfgpkokaiogaa", sum := "8de06bbd4b392470dd560147cc748f3a0bd11e12279f8581f2404985ae5e0006", func := "salvor/salvorlaw03.ArenaOnce", spec := "arenaOnce", unfollowed := true, recurses := true, apart := false, narrowed := true }
def ArenaOnceUptoSaid : Prop := arenaOnceUptoRow.holds Try.pinned (OpenSpec.upto arenaOnceSpec)

/-- 'salvorlaw03.ArenaLits', WHERE WHAT IT READS IS OF BULK AT MOST 1048576: true; the input reads as it did. -/
def arenaLitsUptoRow : OpenClaim := { program := "ytlcfgpkokaiogaa", sum := "8de06bbd4b392470dd560147cc748f3a0bd11e12279f8581f2404985ae5e0006", func := "salvor/salvorlaw03.ArenaLits", spec := "arenaLits", unfollowed := true, recurses := true, apart := false, narrowed := true }
def ArenaLitsUptoSaid : Prop := arenaLitsUptoRow.holds Try.pinned (OpenSpec.upto arenaLitsSpec)

/-- 'salvorlaw03.ArenaWrong', WHERE WHAT IT READS IS OF BULK AT MOST 1048576: true; the input reads as it did. -/
def arenaWrongUptoRow : OpenClaim := { program := "ytlcfgpkokaiogaa", sum := "8de06bbd4b392470dd560147cc748f3a0bd11e12279f8581f2404985ae5e0006", func := "salvor/salvorlaw03.ArenaWrong", spec := "arenaWrong", unfollowed := true, recurses := true, apart := false, narrowed := true }
def ArenaWrongUptoSaid : Prop := arenaWrongUptoRow.holds Try.pinned (OpenSpec.upto arenaWrongSpec)

end Rows
end Go.Proofs.Ytlcfgpkokaiogaa
