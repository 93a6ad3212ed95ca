/-
  No cell of these rows narrows 'for every input' (looked for: loops, veiled, ifaces, maps, wideKeys, modest, calm, conditions, laid).
  DERIVED. THE GIVEN ROWS OF THIS SEAT. 10 by the template 'for every input the law returns true; each argument reads behind the call as it read before'; 0 by the template 'total and deterministic' (their statements: YtmhkalalcmkpbaaTotals.lean).
  GIVEN WITH THE SEED: the statements are not yours to turn. If you find one false, say at which input.
  Laid BY PROGRAM, IN A SANDBOX (cutbox-rows.mjs): the forced cells as the released guide's own fill.sh prints them over the translation 969d8f5cd846bba8… (all of the seat's roots in one cut). By AI agents, Wed Nov 11 2026. No macro, syntax, notation, axiom, sorry.
-/
import Derived.Test.YtmhkalalcmkpbaaChecked
import GoSem.Claim
import GoSem.ClaimJoined
import GoSem.ClaimMapViews
import Derived.JoinedTies
import Derived.KernelRfl
namespace Go.Proofs.Ytmhkalalcmkpbaa
/- THE CELL 'sum', in the pinned program and in every row, IS THE sha256 OF THE DUMP (.gsa) THAT YtmhkalalcmkpbaaProg.lean LOADS. Nothing in Lean hashes anything: it is a label: what it is worth is what the hold of that sum in a sandbox is worth. -/
noncomputable def Try.pinned : Pinned := { name := "ytmhkalalcmkpbaa", sum := "969d8f5cd846bba8c15d2604a09b6664a37458b899857782eaf77ac1e71014f5", checked := Try.checked }
namespace Rows
def none {H : Type} : Left H := { results := [], args := [] }

/-- 'almonrylaw18.DeltaPuts': WHATEVER THE INPUT: true; the input reads as it did. -/
def deltaPutsSpec : ChangeSpec := { name := "deltaPuts", fn := fun _ => fun
  | [d1, d2] => { results := [.lit (.bool true)], args := [d1, d2] }
  | _ => none }
def deltaPutsRow : OpenClaim := { program := "ytmhkalalcmkpbaa", sum := "969d8f5cd846bba8c15d2604a09b6664a37458b899857782eaf77ac1e71014f5", func := "almonry/almonrylaw18.DeltaPuts", spec := "deltaPuts", inPlace := ["internal/abi.NoEscape"], unfollowed := true, recurses := true, apart := false }
def DeltaPutsSaid : Prop := deltaPutsRow.holds Try.pinned (OpenSpec.ofChange deltaPutsSpec)

/-- ITS FALSE NEIGHBOUR: 'it returns false'. Refute it at one input. -/
def deltaPutsWrong : ChangeSpec := { name := "deltaPuts", fn := fun _ => fun
  | [d1, d2] => { results := [.lit (.bool false)], args := [d1, d2] }
  | _ => none }
def DeltaPutsWrongFalsely : Prop := deltaPutsRow.holds Try.pinned (OpenSpec.ofChange deltaPutsWrong)

/-- 'almonrylaw18.DeltaReads': WHATEVER THE INPUT: true; the input reads as it did. -/
def deltaReadsSpec : ChangeSpec := { name := "deltaReads", fn := fun _ => fun
  | [d1, d2] => { results := [.lit (.bool true)], args := [d1, d2] }
  | _ => none }
def deltaReadsRow : OpenClaim := { program := "ytmhkalalcmkpbaa", sum := "969d8f5cd846bba8c15d2604a09b6664a37458b899857782eaf77ac1e71014f5", func := "almonry/almonrylaw18.DeltaReads", spec := "deltaReads", inPlace := ["internal/abi.NoEscape"], unfollowed := true, recurses := true, apart := false }
def DeltaReadsSaid : Prop := deltaReadsRow.holds Try.pinned (OpenSpec.ofChange deltaReadsSpec)

/-- ITS FALSE NEIGHBOUR: 'it returns false'. Refute it at one input. -/
def deltaReadsWrong : ChangeSpec := { name := "deltaReads", fn := fun _ => fun
  | [d1, d2] => { results := [.lit (.bool false)], args := [d1, d2] }
  | _ => none }
def DeltaReadsWrongFalsely : Prop := deltaReadsRow.holds Try.pinned (OpenSpec.ofChange deltaReadsWrong)

/-- 'almonrylaw24.MatrixPlays': WHATEVER THE INPUT: true; the input reads as it did. -/
def matrixPlaysSpec : ChangeSpec := { name := "matrixPlays", fn := fun _ => fun
  | [d1, d2] => { results := [.lit (.bool true)], args := [d1, d2] }
  | _ => none }
def matrixPlaysRow : OpenClaim := { program := "ytmhkalalcmkpbaa", sum := "969d8f5cd846bba8c15d2604a09b6664a37458b899857782eaf77ac1e71014f5", func := "almonry/almonrylaw24.MatrixPlays", spec := "matrixPlays", unfollowed := true, recurses := true, apart := false }
def MatrixPlaysSaid : Prop := matrixPlaysRow.holds Try.pinned (OpenSpec.ofChange matrixPlaysSpec)

/-- ITS FALSE NEIGHBOUR: 'it returns false'. Refute it at one input. -/
def matrixPlaysWrong : ChangeSpec := { name := "matrixPlays", fn := fun _ => fun
  | [d1, d2] => { results := [.lit (.bool false)], args := [d1, d2] }
  | _ => none }
def MatrixPlaysWrongFalsely : Prop := matrixPlaysRow.holds Try.pinned (OpenSpec.ofChange matrixPlaysWrong)

/-- 'almonrylaw24.MatrixStable': WHATEVER THE INPUT: true; the input reads as it did. -/
def matrixStableSpec : ChangeSpec := { name := "matrixStable", fn := fun _ => fun
  | [d1, d2] => { results := [.lit (.bool true)], args := [d1, d2] }
  | _ => none }
def matrixStableRow : OpenClaim := { program := "ytmhkalalcmkpbaa", sum := "969d8f5cd846bba8c15d2604a09b6664a37458b899857782eaf77ac1e71014f5", func := "almonry/almonrylaw24.MatrixStable", spec := "matrixStable", unfollowed := true, recurses := true, apart := false }
def MatrixStableSaid : Prop := matrixStableRow.holds Try.pinned (OpenSpec.ofChange matrixStableSpec)

/-- ITS FALSE NEIGHBOUR: 'it returns false'. Refute it at one input. -/
def matrixStableWrong : ChangeSpec := { name := "matrixStable", fn := fun _ => fun
  | [d1, d2] => { results := [.lit (.bool false)], args := [d1, d2] }
  | _ => none }
def MatrixStableWrongFalsely : Prop := matrixStableRow.holds Try.pinned (OpenSpec.ofChange matrixStableWrong)

/-- 'almonrylaw13.CausalBytes': WHATEVER THE INPUT: true; the input reads as it did. -/
def causalBytesSpec : ChangeSpec := { name := "causalBytes", fn := fun _ => fun
  | [d1, d2] => { results := [.lit (.bool true)], args := [d1, d2] }
  | _ => none }
def causalBytesRow : OpenClaim := { program := "ytmhkalalcmkpbaa", sum := "969d8f5cd846bba8c15d2604a09b6664a37458b899857782eaf77ac1e71014f5", func := "almonry/almonrylaw13.CausalBytes", spec := "causalBytes", unfollowed := true, recurses := true, apart := false }
def CausalBytesSaid : Prop := causalBytesRow.holds Try.pinned (OpenSpec.ofChange causalBytesSpec)

/-- ITS FALSE NEIGHBOUR: 'it returns false'. Refute it at one input. -/
def causalBytesWrong : ChangeSpec := { name := "causalBytes", fn := fun _ => fun
  | [d1, d2] => { results := [.lit (.bool false)], args := [d1, d2] }
  | _ => none }
def CausalBytesWrongFalsely : Prop := causalBytesRow.holds Try.pinned (OpenSpec.ofChange causalBytesWrong)

/-- 'almonrylaw13.CausalGrows': WHATEVER THE INPUT: true; the input reads as it did. -/
def causalGrowsSpec : ChangeSpec := { name := "causalGrows", fn := fun _ => fun
  | [d1, d2, d3] => { results := [.lit (.bool true)], args := [d1, d2, d3] }
  | _ => none }
def causalGrowsRow : OpenClaim := { program := "ytmhkalalcmkpbaa", sum := "969d8f5cd846bba8c15d2604a09b6664a37458b899857782eaf77ac1e71014f5", func := "almonry/almonrylaw13.CausalGrows", spec := "causalGrows", unfollowed := true, recurses := true, apart := false }
def CausalGrowsSaid : Prop := causalGrowsRow.holds Try.pinned (OpenSpec.ofChange causalGrowsSpec)

/-- ITS FALSE NEIGHBOUR: 'it returns false'. Refute it at one input. -/
def causalGrowsWrong : ChangeSpec := { name := "causalGrows", fn := fun _ => fun
  | [d1, d2, d3] => { results := [.lit (.bool false)], args := [d1, d2, d3] }
  | _ => none }
def CausalGrowsWrongFalsely : Prop := causalGrowsRow.holds Try.pinned (OpenSpec.ofChange causalGrowsWrong)

/-- 'almonrylaw15.FactReads': WHATEVER THE INPUT: true; the input reads as it did. -/
def factReadsSpec : ChangeSpec := { name := "factReads", fn := fun _ => fun
  | [d1, d2] => { results := [.lit (.bool true)], args := [d1, d2] }
  | _ => none }
def factReadsRow : OpenClaim := { program := "ytmhkalalcmkpbaa", sum := "969d8f5cd846bba8c15d2604a09b6664a37458b899857782eaf77ac1e71014f5", func := "almonry/almonrylaw15.FactReads", spec := "factReads", inPlace := ["internal/abi.NoEscape"], unfollowed := true, recurses := true, apart := false }
def FactReadsSaid : Prop := factReadsRow.holds Try.pinned (OpenSpec.ofChange factReadsSpec)

/-- ITS FALSE NEIGHBOUR: 'it returns false'. Refute it at one input. -/
def factReadsWrong : ChangeSpec := { name := "factReads", fn := fun _ => fun
  | [d1, d2] => { results := [.lit (.bool false)], args := [d1, d2] }
  | _ => none }
def FactReadsWrongFalsely : Prop := factReadsRow.holds Try.pinned (OpenSpec.ofChange factReadsWrong)

/-- 'almonrylaw15.FactOrder': WHATEVER THE INPUT: true; the input reads as it did. -/
def factOrderSpec : ChangeSpec := { name := "factOrder", fn := fun _ => fun
  | [d1, d2, d3] => { results := [.lit (.bool true)], args := [d1, d2, d3] }
  | _ => none }
def factOrderRow : OpenClaim := { program := "ytmhkalalcmkpbaa", sum := "969d8f5cd846bba8c15d2604a09b6664a37458b899857782eaf77ac1e71014f5", func := "almonry/almonrylaw15.FactOrder", spec := "factOrder", inPlace := ["internal/abi.NoEscape"], unfollowed := true, recurses := true, apart := false }
def FactOrderSaid : Prop := factOrderRow.holds Try.pinned (OpenSpec.ofChange factOrderSpec)

/-- ITS FALSE NEIGHBOUR: 'it returns false'. Refute it at one input. -/
def factOrderWrong : ChangeSpec := { name := "factOrder", fn := fun _ => fun
  | [d1, d2, d3] => { results := [.lit (.bool false)], args := [d1, d2, d3] }
  | _ => none }
def FactOrderWrongFalsely : Prop := factOrderRow.holds Try.pinned (OpenSpec.ofChange factOrderWrong)

/-- 'almonrylaw13.CausalReckons': WHATEVER THE INPUT: true; the input reads as it did. -/
def causalReckonsSpec : ChangeSpec := { name := "causalReckons", fn := fun _ => fun
  | [d1, d2, d3] => { results := [.lit (.bool true)], args := [d1, d2, d3] }
  | _ => none }
def causalReckonsRow : OpenClaim := { program := "ytmhkalalcmkpbaa", sum := "969d8f5cd846bba8c15d2604a09b6664a37458b899857782eaf77ac1e71014f5", func := "almonry/almonrylaw13.CausalReckons", spec := "causalReckons", unfollowed := true, recurses := true, apart := false }
def CausalReckonsSaid : Prop := causalReckonsRow.holds Try.pinned (OpenSpec.ofChange causalReckonsSpec)

/-- ITS FALSE NEIGHBOUR: 'it returns false'. Refute it at one input. -/
def causalReckonsWrong : ChangeSpec := { name := "causalReckons", fn := fun _ => fun
  | [d1, d2, d3] => { results := [.lit (.bool false)], args := [d1, d2, d3] }
  | _ => none }
def CausalReckonsWrongFalsely : Prop := causalReckonsRow.holds Try.pinned (OpenSpec.ofChange causalReckonsWrong)

/-- 'almonrylaw13.CausalJoins': WHATEVER THE INPUT: true; the input reads as it did. -/
def causalJoinsSpec : ChangeSpec := { name := "causalJoins", fn := fun _ => fun
  | [d1, d2, d3] => { results := [.lit (.bool true)], args := [d1, d2, d3] }
  | _ => none }
def causalJoinsRow : OpenClaim := { program := "ytmhkalalcmkpbaa", sum := "969d8f5cd846bba8c15d2604a09b6664a37458b899857782eaf77ac1e71014f5", func := "almonry/almonrylaw13.CausalJoins", spec := "causalJoins", unfollowed := true, recurses := true, apart := false }
def CausalJoinsSaid : Prop := causalJoinsRow.holds Try.pinned (OpenSpec.ofChange causalJoinsSpec)

/-- ITS FALSE NEIGHBOUR: 'it returns false'. Refute it at one input. -/
def causalJoinsWrong : ChangeSpec := { name := "causalJoins", fn := fun _ => fun
  | [d1, d2, d3] => { results := [.lit (.bool false)], args := [d1, d2, d3] }
  | _ => none }
def CausalJoinsWrongFalsely : Prop := causalJoinsRow.holds Try.pinned (OpenSpec.ofChange causalJoinsWrong)

/- THE SECOND FORM. 'bulk': how many values and letters a reading holds, each counted each time it is reached (what is shared counts as often as it is met; a slice's spare places count too). A statement '..UptoSaid' is the law's where the arguments, and the package variables that the reading takes, are together of bulk at most 1048576: NARROWER than '..Said'. Prove '..Said' where nothing that the law and all that it calls make is longer than what came in: it says more and counts as full. Else prove '..UptoSaid'. A law counts once. -/
mutual
def uptoBulk {H : Type} : DataW H → Nat
  | .lit (.string bytes) => bytes.length + 1
  | .lit _ => 1
  | .nil => 1
  | .ptr d => uptoBulk d + 1
  | .slice elems spare => uptoBulkAll elems + uptoBulkAll spare + 1
  | .agg parts => uptoBulkAll parts + 1
  | .iface _ d => uptoBulk d + 1
  | .map entries => uptoBulkEntries entries + 1
  | .held _ => 1
def uptoBulkAll {H : Type} : List (DataW H) → Nat
  | [] => 0
  | d :: r => uptoBulk d + uptoBulkAll r
def uptoBulkEntries {H : Type} : List (Lit × DataW H) → Nat
  | [] => 0
  | x :: r => uptoBulkEntry x + uptoBulkEntries r
def uptoBulkEntry {H : Type} : Lit × DataW H → Nat
  | (.string bytes, d) => bytes.length + uptoBulk d + 1
  | (_, d) => uptoBulk d + 1
 end
def uptoSmall : (H : Type) → List (DataW H) → Bool := fun _ ds => decide (uptoBulkAll ds ≤ 1048576)
def OpenSpec.upto (s : _root_.Go.ChangeSpec) : _root_.Go.OpenSpec := { _root_.Go.OpenSpec.ofChange s with cond := some uptoSmall }

/-- 'almonrylaw18.DeltaPuts', WHERE WHAT IT READS IS OF BULK AT MOST 1048576: true; the input reads as it did. -/
def deltaPutsUptoRow : OpenClaim := { program := "ytmhkalalcmkpbaa", sum := "969d8f5cd846bba8c15d2604a09b6664a37458b899857782eaf77ac1e71014f5", func := "almonry/almonrylaw18.DeltaPuts", spec := "deltaPuts", inPlace := ["internal/abi.NoEscape"], unfollowed := true, recurses := true, apart := false, narrowed := true }
def DeltaPutsUptoSaid : Prop := deltaPutsUptoRow.holds Try.pinned (OpenSpec.upto deltaPutsSpec)

/-- 'almonrylaw18.DeltaReads', WHERE WHAT IT READS IS OF BULK AT MOST 1048576: true; the input reads as it did. -/
def deltaReadsUptoRow : OpenClaim := { program := "ytmhkalalcmkpbaa", sum := "969d8f5cd846bba8c15d2604a09b6664a37458b899857782eaf77ac1e71014f5", func := "almonry/almonrylaw18.DeltaReads", spec := "deltaReads", inPlace := ["internal/abi.NoEscape"], unfollowed := true, recurses := true, apart := false, narrowed := true }
def DeltaReadsUptoSaid : Prop := deltaReadsUptoRow.holds Try.pinned (OpenSpec.upto deltaReadsSpec)

/-- 'almonrylaw24.MatrixPlays', WHERE WHAT IT READS IS OF BULK AT MOST 1048576: true; the input reads as it did. -/
def matrixPlaysUptoRow : OpenClaim := { program := "ytmhkalalcmkpbaa", sum := "969d8f5cd846bba8c15d2604a09b6664a37458b899857782eaf77ac1e71014f5", func := "almonry/almonrylaw24.MatrixPlays", spec := "matrixPlays", unfollowed := true, recurses := true, apart := false, narrowed := true }
def MatrixPlaysUptoSaid : Prop := matrixPlaysUptoRow.holds Try.pinned (OpenSpec.upto matrixPlaysSpec)

/-- 'almonrylaw24.MatrixStable', WHERE WHAT IT READS IS OF BULK AT MOST 1048576: true; the input reads as it did. -/
def matrixStableUptoRow : OpenClaim := { program := "ytmhkalalcmkpbaa", sum := "969d8f5cd846bba8c15d2604a09b6664a37458b899857782eaf77ac1e71014f5", func := "almonry/almonrylaw24.MatrixStable", spec := "matrixStable", unfollowed := true, recurses := true, apart := false, narrowed := true }
def MatrixStableUptoSaid : Prop := matrixStableUptoRow.holds Try.pinned (OpenSpec.upto matrixStableSpec)

/-- 'almonrylaw13.CausalBytes', WHERE WHAT IT READS IS OF BULK AT MOST 1048576: true; the input reads as it did. -/
def causalBytesUptoRow : OpenClaim := { program := "ytmhkalalcmkpbaa", sum := "969d8f5cd846bba8c15d2604a09b6664a37458b899857782eaf77ac1e71014f5", func := "almonry/almonrylaw13.CausalBytes", spec := "causalBytes", unfollowed := true, recurses := true, apart := false, narrowed := true }
def CausalBytesUptoSaid : Prop := causalBytesUptoRow.holds Try.pinned (OpenSpec.upto causalBytesSpec)

/-- 'almonrylaw13.CausalGrows', WHERE WHAT IT READS IS OF BULK AT MOST 1048576: true; the input reads as it did. -/
def causalGrowsUptoRow : OpenClaim := { program := "ytmhkalalcmkpbaa", sum := "969d8f5cd846bba8c15d2604a09b6664a37458b899857782eaf77ac1e71014f5", func := "almonry/almonrylaw13.CausalGrows", spec := "causalGrows", unfollowed := true, recurses := true, apart := false, narrowed := true }
def CausalGrowsUptoSaid : Prop := causalGrowsUptoRow.holds Try.pinned (OpenSpec.upto causalGrowsSpec)

/-- 'almonrylaw15.FactReads', WHERE WHAT IT READS IS OF BULK AT MOST 1048576: true; the input reads as it did. -/
def factReadsUptoRow : OpenClaim := { program := "ytmhkalalcmkpbaa", sum := "969d8f5cd846bba8c15d2604a09b6664a37458b899857782eaf77ac1e71014f5", func := "almonry/almonrylaw15.FactReads", spec := "factReads", inPlace := ["internal/abi.NoEscape"], unfollowed := true, recurses := true, apart := false, narrowed := true }
def FactReadsUptoSaid : Prop := factReadsUptoRow.holds Try.pinned (OpenSpec.upto factReadsSpec)

/-- 'almonrylaw15.FactOrder', WHERE WHAT IT READS IS OF BULK AT MOST 1048576: true; the input reads as it did. -/
def factOrderUptoRow : OpenClaim := { program := "ytmhkalalcmkpbaa", sum := "969d8f5cd846bba8c15d2604a09b6664a37458b899857782eaf77ac1e71014f5", func := "almonry/almonrylaw15.FactOrder", spec := "factOrder", inPlace := ["internal/abi.NoEscape"], unfollowed := true, recurses := true, apart := false, narrowed := true }
def FactOrderUptoSaid : Prop := factOrderUptoRow.holds Try.pinned (OpenSpec.upto factOrderSpec)

/-- 'almonrylaw13.CausalReckons', WHERE WHAT IT READS IS OF BULK AT MOST 1048576: true; the input reads as it did. -/
def causalReckonsUptoRow : OpenClaim := { program := "ytmhkalalcmkpbaa", sum := "969d8f5cd846bba8c15d2604a09b6664a37458b899857782eaf77ac1e71014f5", func := "almonry/almonrylaw13.CausalReckons", spec := "causalReckons", unfollowed := true, recurses := true, apart := false, narrowed := true }
def CausalReckonsUptoSaid : Prop := causalReckonsUptoRow.holds Try.pinned (OpenSpec.upto causalReckonsSpec)

/-- 'almonrylaw13.CausalJoins', WHERE WHAT IT READS IS OF BULK AT MOST 1048576: true; the input reads as it did. -/
def causalJoinsUptoRow : OpenClaim := { program := "ytmhkalalcmkpbaa", sum := "969d8f5cd846bba8c15d2604a09b6664a37458b899857782eaf77ac1e71014f5", func := "almonry/almonrylaw13.CausalJoins", spec := "causalJoins", unfollowed := true, recurses := true, apart := false, narrowed := true }
def CausalJoinsUptoSaid : Prop := causalJoinsUptoRow.holds Try.pinned (OpenSpec.upto causalJoinsSpec)

end Rows
end Go.Proofs.Ytmhkalalcmkpbaa
