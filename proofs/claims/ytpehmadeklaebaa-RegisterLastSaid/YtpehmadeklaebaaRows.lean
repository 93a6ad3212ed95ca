/-
  No cell of these rows narrows 'for every input' (looked for: loops, veiled, ifaces, maps, wideKeys, modest, calm, conditions, laid).
  DERIVED. THE GIVEN ROWS OF THIS SEAT. 6 by the template 'for every input the law returns true; each argument reads behind the call as it read before'; 0 by the template 'total and deterministic' (their statements: YtpehmadeklaebaaTotals.lean).
  GIVEN WITH THE SEED: the statements are not yours to turn. If you find one false, say at which input.
  Laid BY PROGRAM, IN A SANDBOX (cutbox-rows.mjs): the forced cells as the released guide's own fill.sh prints them over the translation 22375f54dd8075bc… (all of the seat's roots in one cut). By AI agents, Wed Nov 11 2026. No macro, syntax, notation, axiom, sorry.
-/
import Derived.Test.YtpehmadeklaebaaChecked
import GoSem.Claim
import GoSem.ClaimJoined
import GoSem.ClaimMapViews
import Derived.JoinedTies
import Derived.KernelRfl
namespace Go.Proofs.Ytpehmadeklaebaa
/- THE CELL 'sum', in the pinned program and in every row, IS THE sha256 OF THE DUMP (.gsa) THAT YtpehmadeklaebaaProg.lean LOADS. Nothing in Lean hashes anything: it is a label: what it is worth is what the hold of that sum in a sandbox is worth. -/
noncomputable def Try.pinned : Pinned := { name := "ytpehmadeklaebaa", sum := "22375f54dd8075bcc906a534c36310a28e11afa5340b8b9ae1cd13f80b89f958", checked := Try.checked }
namespace Rows
def none {H : Type} : Left H := { results := [], args := [] }

/-- 'almonrylaw24.MatrixPlays': WHATEVER THE INPUT: true; the input reads as it did. -/
def matrixPlaysSpec : ChangeSpec := { name := "matrixPlays", fn := fun _ => fun
  | [d1, d2] => { results := [.lit (.bool true)], args := [d1, d2] }
  | _ => none }
def matrixPlaysRow : OpenClaim := { program := "ytpehmadeklaebaa", sum := "22375f54dd8075bcc906a534c36310a28e11afa5340b8b9ae1cd13f80b89f958", func := "almonry/almonrylaw24.MatrixPlays", spec := "matrixPlays", unfollowed := true, recurses := true, plainKeys := false, apart := false }
def MatrixPlaysSaid : Prop := matrixPlaysRow.holds Try.pinned (OpenSpec.ofChange matrixPlaysSpec)

/-- ITS FALSE NEIGHBOUR: 'it returns false'. Refute it at one input. -/
def matrixPlaysWrong : ChangeSpec := { name := "matrixPlays", fn := fun _ => fun
  | [d1, d2] => { results := [.lit (.bool false)], args := [d1, d2] }
  | _ => none }
def MatrixPlaysWrongFalsely : Prop := matrixPlaysRow.holds Try.pinned (OpenSpec.ofChange matrixPlaysWrong)

/-- 'almonrylaw24.MatrixStable': WHATEVER THE INPUT: true; the input reads as it did. -/
def matrixStableSpec : ChangeSpec := { name := "matrixStable", fn := fun _ => fun
  | [d1, d2] => { results := [.lit (.bool true)], args := [d1, d2] }
  | _ => none }
def matrixStableRow : OpenClaim := { program := "ytpehmadeklaebaa", sum := "22375f54dd8075bcc906a534c36310a28e11afa5340b8b9ae1cd13f80b89f958", func := "almonry/almonrylaw24.MatrixStable", spec := "matrixStable", unfollowed := true, recurses := true, plainKeys := false, apart := false }
def MatrixStableSaid : Prop := matrixStableRow.holds Try.pinned (OpenSpec.ofChange matrixStableSpec)

/-- ITS FALSE NEIGHBOUR: 'it returns false'. Refute it at one input. -/
def matrixStableWrong : ChangeSpec := { name := "matrixStable", fn := fun _ => fun
  | [d1, d2] => { results := [.lit (.bool false)], args := [d1, d2] }
  | _ => none }
def MatrixStableWrongFalsely : Prop := matrixStableRow.holds Try.pinned (OpenSpec.ofChange matrixStableWrong)

/-- 'almonrylaw17.RegisterTells': WHATEVER THE INPUT: true; the input reads as it did. -/
def registerTellsSpec : ChangeSpec := { name := "registerTells", fn := fun _ => fun
  | [d1, d2, d3] => { results := [.lit (.bool true)], args := [d1, d2, d3] }
  | _ => none }
def registerTellsRow : OpenClaim := { program := "ytpehmadeklaebaa", sum := "22375f54dd8075bcc906a534c36310a28e11afa5340b8b9ae1cd13f80b89f958", func := "almonry/almonrylaw17.RegisterTells", spec := "registerTells", unfollowed := true, recurses := true, plainKeys := false, apart := false }
def RegisterTellsSaid : Prop := registerTellsRow.holds Try.pinned (OpenSpec.ofChange registerTellsSpec)

/-- ITS FALSE NEIGHBOUR: 'it returns false'. Refute it at one input. -/
def registerTellsWrong : ChangeSpec := { name := "registerTells", fn := fun _ => fun
  | [d1, d2, d3] => { results := [.lit (.bool false)], args := [d1, d2, d3] }
  | _ => none }
def RegisterTellsWrongFalsely : Prop := registerTellsRow.holds Try.pinned (OpenSpec.ofChange registerTellsWrong)

/-- 'almonrylaw17.RegisterTurned': WHATEVER THE INPUT: true; the input reads as it did. -/
def registerTurnedSpec : ChangeSpec := { name := "registerTurned", fn := fun _ => fun
  | [d] => { results := [.lit (.bool true)], args := [d] }
  | _ => none }
def registerTurnedRow : OpenClaim := { program := "ytpehmadeklaebaa", sum := "22375f54dd8075bcc906a534c36310a28e11afa5340b8b9ae1cd13f80b89f958", func := "almonry/almonrylaw17.RegisterTurned", spec := "registerTurned", unfollowed := true, recurses := true, plainKeys := false, apart := false }
def RegisterTurnedSaid : Prop := registerTurnedRow.holds Try.pinned (OpenSpec.ofChange registerTurnedSpec)

/-- ITS FALSE NEIGHBOUR: 'it returns false'. Refute it at one input. -/
def registerTurnedWrong : ChangeSpec := { name := "registerTurned", fn := fun _ => fun
  | [d] => { results := [.lit (.bool false)], args := [d] }
  | _ => none }
def RegisterTurnedWrongFalsely : Prop := registerTurnedRow.holds Try.pinned (OpenSpec.ofChange registerTurnedWrong)

/-- 'almonrylaw17.RegisterLast': WHATEVER THE INPUT: true; the input reads as it did. -/
def registerLastSpec : ChangeSpec := { name := "registerLast", fn := fun _ => fun
  | [d] => { results := [.lit (.bool true)], args := [d] }
  | _ => none }
def registerLastRow : OpenClaim := { program := "ytpehmadeklaebaa", sum := "22375f54dd8075bcc906a534c36310a28e11afa5340b8b9ae1cd13f80b89f958", func := "almonry/almonrylaw17.RegisterLast", spec := "registerLast", unfollowed := true, recurses := true, plainKeys := false, apart := false }
def RegisterLastSaid : Prop := registerLastRow.holds Try.pinned (OpenSpec.ofChange registerLastSpec)

/-- ITS FALSE NEIGHBOUR: 'it returns false'. Refute it at one input. -/
def registerLastWrong : ChangeSpec := { name := "registerLast", fn := fun _ => fun
  | [d] => { results := [.lit (.bool false)], args := [d] }
  | _ => none }
def RegisterLastWrongFalsely : Prop := registerLastRow.holds Try.pinned (OpenSpec.ofChange registerLastWrong)

/-- 'almonrylaw25.BufferNone': WHATEVER THE INPUT: true; the input reads as it did. -/
def bufferNoneSpec : ChangeSpec := { name := "bufferNone", fn := fun _ => fun
  | [d] => { results := [.lit (.bool true)], args := [d] }
  | _ => none }
def bufferNoneRow : OpenClaim := { program := "ytpehmadeklaebaa", sum := "22375f54dd8075bcc906a534c36310a28e11afa5340b8b9ae1cd13f80b89f958", func := "almonry/almonrylaw25.BufferNone", spec := "bufferNone", unfollowed := true, recurses := true, plainKeys := false, apart := false }
def BufferNoneSaid : Prop := bufferNoneRow.holds Try.pinned (OpenSpec.ofChange bufferNoneSpec)

/-- ITS FALSE NEIGHBOUR: 'it returns false'. Refute it at one input. -/
def bufferNoneWrong : ChangeSpec := { name := "bufferNone", fn := fun _ => fun
  | [d] => { results := [.lit (.bool false)], args := [d] }
  | _ => none }
def BufferNoneWrongFalsely : Prop := bufferNoneRow.holds Try.pinned (OpenSpec.ofChange bufferNoneWrong)

/- THE SECOND FORM. 'bulk': how many values and letters a reading holds, each counted each time it is reached (what is shared counts as often as it is met; a slice's spare places count too). A statement '..UptoSaid' is the law's where the arguments, and the package variables that the reading takes, are together of bulk at most 1048576: NARROWER than '..Said'. Prove '..Said' where nothing that the law and all that it calls make is longer than what came in: it says more and counts as full. Else prove '..UptoSaid'. A law counts once. -/
mutual
def uptoBulk {H : Type} : DataW H → Nat
  | .lit (.string bytes) => bytes.length + 1
  | .lit _ => 1
  | .nil => 1
  | .ptr d => uptoBulk d + 1
  | .slice elems spare => uptoBulkAll elems + uptoBulkAll spare + 1
  | .agg parts => uptoBulkAll parts + 1
  | .iface _ d => uptoBulk d + 1
  | .map entries => uptoBulkEntries entries + 1
  | .held _ => 1
def uptoBulkAll {H : Type} : List (DataW H) → Nat
  | [] => 0
  | d :: r => uptoBulk d + uptoBulkAll r
def uptoBulkEntries {H : Type} : List (Lit × DataW H) → Nat
  | [] => 0
  | x :: r => uptoBulkEntry x + uptoBulkEntries r
def uptoBulkEntry {H : Type} : Lit × DataW H → Nat
  | (.string bytes, d) => bytes.length + uptoBulk d + 1
  | (_, d) => uptoBulk d + 1
 end
def uptoSmall : (H : Type) → List (DataW H) → Bool := fun _ ds => decide (uptoBulkAll ds ≤ 1048576)
def OpenSpec.upto (s : _root_.Go.ChangeSpec) : _root_.Go.OpenSpec := { _root_.Go.OpenSpec.ofChange s with cond := some uptoSmall }

/-- 'almonrylaw24.MatrixPlays', WHERE WHAT IT READS IS OF BULK AT MOST 1048576: true; the input reads as it did. -/
def matrixPlaysUptoRow : OpenClaim := { program := "ytpehmadeklaebaa", sum := "22375f54dd8075bcc906a534c36310a28e11afa5340b8b9ae1cd13f80b89f958", func := "almonry/almonrylaw24.MatrixPlays", spec := "matrixPlays", unfollowed := true, recurses := true, plainKeys := false, apart := false, narrowed := true }
def MatrixPlaysUptoSaid : Prop := matrixPlaysUptoRow.holds Try.pinned (OpenSpec.upto matrixPlaysSpec)

/-- 'almonrylaw24.MatrixStable', WHERE WHAT IT READS IS OF BULK AT MOST 1048576: true; the input reads as it did. -/
def matrixStableUptoRow : OpenClaim := { program := "ytpehmadeklaebaa", sum := "22375f54dd8075bcc906a534c36310a28e11afa5340b8b9ae1cd13f80b89f958", func := "almonry/almonrylaw24.MatrixStable", spec := "matrixStable", unfollowed := true, recurses := true, plainKeys := false, apart := false, narrowed := true }
def MatrixStableUptoSaid : Prop := matrixStableUptoRow.holds Try.pinned (OpenSpec.upto matrixStableSpec)

/-- 'almonrylaw17.RegisterTells', WHERE WHAT IT READS IS OF BULK AT MOST 1048576: true; the input reads as it did. -/
def registerTellsUptoRow : OpenClaim := { program := "ytpehmadeklaebaa", sum := "22375f54dd8075bcc906a534c36310a28e11afa5340b8b9ae1cd13f80b89f958", func := "almonry/almonrylaw17.RegisterTells", spec := "registerTells", unfollowed := true, recurses := true, plainKeys := false, apart := false, narrowed := true }
def RegisterTellsUptoSaid : Prop := registerTellsUptoRow.holds Try.pinned (OpenSpec.upto registerTellsSpec)

/-- 'almonrylaw17.RegisterTurned', WHERE WHAT IT READS IS OF BULK AT MOST 1048576: true; the input reads as it did. -/
def registerTurnedUptoRow : OpenClaim := { program := "ytpehmadeklaebaa", sum := "22375f54dd8075bcc906a534c36310a28e11afa5340b8b9ae1cd13f80b89f958", func := "almonry/almonrylaw17.RegisterTurned", spec := "registerTurned", unfollowed := true, recurses := true, plainKeys := false, apart := false, narrowed := true }
def RegisterTurnedUptoSaid : Prop := registerTurnedUptoRow.holds Try.pinned (OpenSpec.upto registerTurnedSpec)

/-- 'almonrylaw17.RegisterLast', WHERE WHAT IT READS IS OF BULK AT MOST 1048576: true; the input reads as it did. -/
def registerLastUptoRow : OpenClaim := { program := "ytpehmadeklaebaa", sum := "22375f54dd8075bcc906a534c36310a28e11afa5340b8b9ae1cd13f80b89f958", func := "almonry/almonrylaw17.RegisterLast", spec := "registerLast", unfollowed := true, recurses := true, plainKeys := false, apart := false, narrowed := true }
def RegisterLastUptoSaid : Prop := registerLastUptoRow.holds Try.pinned (OpenSpec.upto registerLastSpec)

/-- 'almonrylaw25.BufferNone', WHERE WHAT IT READS IS OF BULK AT MOST 1048576: true; the input reads as it did. -/
def bufferNoneUptoRow : OpenClaim := { program := "ytpehmadeklaebaa", sum := "22375f54dd8075bcc906a534c36310a28e11afa5340b8b9ae1cd13f80b89f958", func := "almonry/almonrylaw25.BufferNone", spec := "bufferNone", unfollowed := true, recurses := true, plainKeys := false, apart := false, narrowed := true }
def BufferNoneUptoSaid : Prop := bufferNoneUptoRow.holds Try.pinned (OpenSpec.upto bufferNoneSpec)

end Rows
end Go.Proofs.Ytpehmadeklaebaa
