/-
  No cell of these rows narrows 'for every input' (looked for: loops, veiled, ifaces, maps, wideKeys, modest, calm, conditions, laid).
  DERIVED. THE GIVEN ROWS OF THIS SEAT. 12 by the template 'for every input the law returns true; each argument reads behind the call as it read before'; 0 by the template 'total and deterministic' (their statements: YtngjfeielpnnnaaTotals.lean).
  GIVEN WITH THE SEED: the statements are not yours to turn. If you find one false, say at which input.
  Laid BY PROGRAM, IN A SANDBOX (cutbox-rows.mjs): the forced cells as the released guide's own fill.sh prints them over the translation 60dbcacd8e5663b4… (all of the seat's roots in one cut). By AI agents, Wed Nov 11 2026. No macro, syntax, notation, axiom, sorry.
-/
import Derived.Test.YtngjfeielpnnnaaChecked
import GoSem.Claim
import GoSem.ClaimJoined
import GoSem.ClaimMapViews
import Derived.JoinedTies
import Derived.KernelRfl
namespace Go.Proofs.Ytngjfeielpnnnaa
/- THE CELL 'sum', in the pinned program and in every row, IS THE sha256 OF THE DUMP (.gsa) THAT YtngjfeielpnnnaaProg.lean LOADS. Nothing in Lean hashes anything: it is a label: what it is worth is what the hold of that sum in a sandbox is worth. -/
noncomputable def Try.pinned : Pinned := { name := "ytngjfeielpnnnaa", sum := "60dbcacd8e5663b4f44af0d07cf0f0c697d97c51db210956671948017c43c335", checked := Try.checked }
namespace Rows
def none {H : Type} : Left H := { results := [], args := [] }

/-- 'almonrylaw05.FloatOrder': WHATEVER THE INPUT: true; the input reads as it did. -/
def floatOrderSpec : ChangeSpec := { name := "floatOrder", fn := fun _ => fun
  | [d] => { results := [.lit (.bool true)], args := [d] }
  | _ => none }
def floatOrderRow : OpenClaim := { program := "ytngjfeielpnnnaa", sum := "60dbcacd8e5663b4f44af0d07cf0f0c697d97c51db210956671948017c43c335", func := "almonry/almonrylaw05.FloatOrder", spec := "floatOrder", inPlace := ["math.Float64frombits", "math.Float64bits"], unfollowed := true, recurses := true, apart := false }
def FloatOrderSaid : Prop := floatOrderRow.holds Try.pinned (OpenSpec.ofChange floatOrderSpec)

/-- ITS FALSE NEIGHBOUR: 'it returns false'. Refute it at one input. -/
def floatOrderWrong : ChangeSpec := { name := "floatOrder", fn := fun _ => fun
  | [d] => { results := [.lit (.bool false)], args := [d] }
  | _ => none }
def FloatOrderWrongFalsely : Prop := floatOrderRow.holds Try.pinned (OpenSpec.ofChange floatOrderWrong)

/-- 'almonrylaw05.FloatSorts': WHATEVER THE INPUT: true; the input reads as it did. -/
def floatSortsSpec : ChangeSpec := { name := "floatSorts", fn := fun _ => fun
  | [d] => { results := [.lit (.bool true)], args := [d] }
  | _ => none }
def floatSortsRow : OpenClaim := { program := "ytngjfeielpnnnaa", sum := "60dbcacd8e5663b4f44af0d07cf0f0c697d97c51db210956671948017c43c335", func := "almonry/almonrylaw05.FloatSorts", spec := "floatSorts", inPlace := ["math.Float64frombits", "math.Float64bits"], unfollowed := true, recurses := true, apart := false }
def FloatSortsSaid : Prop := floatSortsRow.holds Try.pinned (OpenSpec.ofChange floatSortsSpec)

/-- ITS FALSE NEIGHBOUR: 'it returns false'. Refute it at one input. -/
def floatSortsWrong : ChangeSpec := { name := "floatSorts", fn := fun _ => fun
  | [d] => { results := [.lit (.bool false)], args := [d] }
  | _ => none }
def FloatSortsWrongFalsely : Prop := floatSortsRow.holds Try.pinned (OpenSpec.ofChange floatSortsWrong)

/-- 'almonrylaw33.StatsTell': WHATEVER THE INPUT: true; the input reads as it did. -/
def statsTellSpec : ChangeSpec := { name := "statsTell", fn := fun _ => fun
  | [d1, d2] => { results := [.lit (.bool true)], args := [d1, d2] }
  | _ => none }
def statsTellRow : OpenClaim := { program := "ytngjfeielpnnnaa", sum := "60dbcacd8e5663b4f44af0d07cf0f0c697d97c51db210956671948017c43c335", func := "almonry/almonrylaw33.StatsTell", spec := "statsTell", inPlace := ["math.Float64frombits", "math.Float64bits"], unfollowed := true, recurses := true, apart := false }
def StatsTellSaid : Prop := statsTellRow.holds Try.pinned (OpenSpec.ofChange statsTellSpec)

/-- ITS FALSE NEIGHBOUR: 'it returns false'. Refute it at one input. -/
def statsTellWrong : ChangeSpec := { name := "statsTell", fn := fun _ => fun
  | [d1, d2] => { results := [.lit (.bool false)], args := [d1, d2] }
  | _ => none }
def StatsTellWrongFalsely : Prop := statsTellRow.holds Try.pinned (OpenSpec.ofChange statsTellWrong)

/-- 'almonrylaw33.StatsTurned': WHATEVER THE INPUT: true; the input reads as it did. -/
def statsTurnedSpec : ChangeSpec := { name := "statsTurned", fn := fun _ => fun
  | [d1, d2] => { results := [.lit (.bool true)], args := [d1, d2] }
  | _ => none }
def statsTurnedRow : OpenClaim := { program := "ytngjfeielpnnnaa", sum := "60dbcacd8e5663b4f44af0d07cf0f0c697d97c51db210956671948017c43c335", func := "almonry/almonrylaw33.StatsTurned", spec := "statsTurned", inPlace := ["math.Float64frombits", "math.Float64bits"], unfollowed := true, recurses := true, apart := false }
def StatsTurnedSaid : Prop := statsTurnedRow.holds Try.pinned (OpenSpec.ofChange statsTurnedSpec)

/-- ITS FALSE NEIGHBOUR: 'it returns false'. Refute it at one input. -/
def statsTurnedWrong : ChangeSpec := { name := "statsTurned", fn := fun _ => fun
  | [d1, d2] => { results := [.lit (.bool false)], args := [d1, d2] }
  | _ => none }
def StatsTurnedWrongFalsely : Prop := statsTurnedRow.holds Try.pinned (OpenSpec.ofChange statsTurnedWrong)

/-- 'almonrylaw05.FloatKeys': WHATEVER THE INPUT: true; the input reads as it did. -/
def floatKeysSpec : ChangeSpec := { name := "floatKeys", fn := fun _ => fun
  | [d1, d2, d3] => { results := [.lit (.bool true)], args := [d1, d2, d3] }
  | _ => none }
def floatKeysRow : OpenClaim := { program := "ytngjfeielpnnnaa", sum := "60dbcacd8e5663b4f44af0d07cf0f0c697d97c51db210956671948017c43c335", func := "almonry/almonrylaw05.FloatKeys", spec := "floatKeys", inPlace := ["math.Float64frombits", "math.Float64bits"], unfollowed := true, recurses := true, apart := false }
def FloatKeysSaid : Prop := floatKeysRow.holds Try.pinned (OpenSpec.ofChange floatKeysSpec)

/-- ITS FALSE NEIGHBOUR: 'it returns false'. Refute it at one input. -/
def floatKeysWrong : ChangeSpec := { name := "floatKeys", fn := fun _ => fun
  | [d1, d2, d3] => { results := [.lit (.bool false)], args := [d1, d2, d3] }
  | _ => none }
def FloatKeysWrongFalsely : Prop := floatKeysRow.holds Try.pinned (OpenSpec.ofChange floatKeysWrong)

/-- 'almonrylaw05.FloatBack': WHATEVER THE INPUT: true; the input reads as it did. -/
def floatBackSpec : ChangeSpec := { name := "floatBack", fn := fun _ => fun
  | [d1, d2] => { results := [.lit (.bool true)], args := [d1, d2] }
  | _ => none }
def floatBackRow : OpenClaim := { program := "ytngjfeielpnnnaa", sum := "60dbcacd8e5663b4f44af0d07cf0f0c697d97c51db210956671948017c43c335", func := "almonry/almonrylaw05.FloatBack", spec := "floatBack", inPlace := ["math.Float64frombits", "math.Float64bits"], unfollowed := true, recurses := true, apart := false }
def FloatBackSaid : Prop := floatBackRow.holds Try.pinned (OpenSpec.ofChange floatBackSpec)

/-- ITS FALSE NEIGHBOUR: 'it returns false'. Refute it at one input. -/
def floatBackWrong : ChangeSpec := { name := "floatBack", fn := fun _ => fun
  | [d1, d2] => { results := [.lit (.bool false)], args := [d1, d2] }
  | _ => none }
def FloatBackWrongFalsely : Prop := floatBackRow.holds Try.pinned (OpenSpec.ofChange floatBackWrong)

/-- 'almonrylaw51.HistBoxes': WHATEVER THE INPUT: true; the input reads as it did. -/
def histBoxesSpec : ChangeSpec := { name := "histBoxes", fn := fun _ => fun
  | [d1, d2] => { results := [.lit (.bool true)], args := [d1, d2] }
  | _ => none }
def histBoxesRow : OpenClaim := { program := "ytngjfeielpnnnaa", sum := "60dbcacd8e5663b4f44af0d07cf0f0c697d97c51db210956671948017c43c335", func := "almonry/almonrylaw51.HistBoxes", spec := "histBoxes", inPlace := ["math.Float64frombits", "math.Float64bits"], unfollowed := true, recurses := true, apart := false }
def HistBoxesSaid : Prop := histBoxesRow.holds Try.pinned (OpenSpec.ofChange histBoxesSpec)

/-- ITS FALSE NEIGHBOUR: 'it returns false'. Refute it at one input. -/
def histBoxesWrong : ChangeSpec := { name := "histBoxes", fn := fun _ => fun
  | [d1, d2] => { results := [.lit (.bool false)], args := [d1, d2] }
  | _ => none }
def HistBoxesWrongFalsely : Prop := histBoxesRow.holds Try.pinned (OpenSpec.ofChange histBoxesWrong)

/-- 'almonrylaw51.HistAll': WHATEVER THE INPUT: true; the input reads as it did. -/
def histAllSpec : ChangeSpec := { name := "histAll", fn := fun _ => fun
  | [d1, d2] => { results := [.lit (.bool true)], args := [d1, d2] }
  | _ => none }
def histAllRow : OpenClaim := { program := "ytngjfeielpnnnaa", sum := "60dbcacd8e5663b4f44af0d07cf0f0c697d97c51db210956671948017c43c335", func := "almonry/almonrylaw51.HistAll", spec := "histAll", inPlace := ["math.Float64frombits", "math.Float64bits"], unfollowed := true, recurses := true, apart := false }
def HistAllSaid : Prop := histAllRow.holds Try.pinned (OpenSpec.ofChange histAllSpec)

/-- ITS FALSE NEIGHBOUR: 'it returns false'. Refute it at one input. -/
def histAllWrong : ChangeSpec := { name := "histAll", fn := fun _ => fun
  | [d1, d2] => { results := [.lit (.bool false)], args := [d1, d2] }
  | _ => none }
def HistAllWrongFalsely : Prop := histAllRow.holds Try.pinned (OpenSpec.ofChange histAllWrong)

/-- 'almonrylaw22.QueryLists': WHATEVER THE INPUT: true; the input reads as it did. -/
def queryListsSpec : ChangeSpec := { name := "queryLists", fn := fun _ => fun
  | [d1, d2] => { results := [.lit (.bool true)], args := [d1, d2] }
  | _ => none }
def queryListsRow : OpenClaim := { program := "ytngjfeielpnnnaa", sum := "60dbcacd8e5663b4f44af0d07cf0f0c697d97c51db210956671948017c43c335", func := "almonry/almonrylaw22.QueryLists", spec := "queryLists", inPlace := ["math.Float64frombits", "math.Float64bits"], unfollowed := true, recurses := true, apart := false }
def QueryListsSaid : Prop := queryListsRow.holds Try.pinned (OpenSpec.ofChange queryListsSpec)

/-- ITS FALSE NEIGHBOUR: 'it returns false'. Refute it at one input. -/
def queryListsWrong : ChangeSpec := { name := "queryLists", fn := fun _ => fun
  | [d1, d2] => { results := [.lit (.bool false)], args := [d1, d2] }
  | _ => none }
def QueryListsWrongFalsely : Prop := queryListsRow.holds Try.pinned (OpenSpec.ofChange queryListsWrong)

/-- 'almonrylaw22.QueryAll': WHATEVER THE INPUT: true; the input reads as it did. -/
def queryAllSpec : ChangeSpec := { name := "queryAll", fn := fun _ => fun
  | [d1, d2] => { results := [.lit (.bool true)], args := [d1, d2] }
  | _ => none }
def queryAllRow : OpenClaim := { program := "ytngjfeielpnnnaa", sum := "60dbcacd8e5663b4f44af0d07cf0f0c697d97c51db210956671948017c43c335", func := "almonry/almonrylaw22.QueryAll", spec := "queryAll", inPlace := ["math.Float64frombits", "math.Float64bits"], unfollowed := true, recurses := true, apart := false }
def QueryAllSaid : Prop := queryAllRow.holds Try.pinned (OpenSpec.ofChange queryAllSpec)

/-- ITS FALSE NEIGHBOUR: 'it returns false'. Refute it at one input. -/
def queryAllWrong : ChangeSpec := { name := "queryAll", fn := fun _ => fun
  | [d1, d2] => { results := [.lit (.bool false)], args := [d1, d2] }
  | _ => none }
def QueryAllWrongFalsely : Prop := queryAllRow.holds Try.pinned (OpenSpec.ofChange queryAllWrong)

/-- 'almonrylaw35.DiffOf': WHATEVER THE INPUT: true; the input reads as it did. -/
def diffOfSpec : ChangeSpec := { name := "diffOf", fn := fun _ => fun
  | [d1, d2] => { results := [.lit (.bool true)], args := [d1, d2] }
  | _ => none }
def diffOfRow : OpenClaim := { program := "ytngjfeielpnnnaa", sum := "60dbcacd8e5663b4f44af0d07cf0f0c697d97c51db210956671948017c43c335", func := "almonry/almonrylaw35.DiffOf", spec := "diffOf", inPlace := ["math.Float64bits"], unfollowed := true, recurses := true, apart := false }
def DiffOfSaid : Prop := diffOfRow.holds Try.pinned (OpenSpec.ofChange diffOfSpec)

/-- ITS FALSE NEIGHBOUR: 'it returns false'. Refute it at one input. -/
def diffOfWrong : ChangeSpec := { name := "diffOf", fn := fun _ => fun
  | [d1, d2] => { results := [.lit (.bool false)], args := [d1, d2] }
  | _ => none }
def DiffOfWrongFalsely : Prop := diffOfRow.holds Try.pinned (OpenSpec.ofChange diffOfWrong)

/-- 'almonrylaw35.DiffTurned': WHATEVER THE INPUT: true; the input reads as it did. -/
def diffTurnedSpec : ChangeSpec := { name := "diffTurned", fn := fun _ => fun
  | [d1, d2] => { results := [.lit (.bool true)], args := [d1, d2] }
  | _ => none }
def diffTurnedRow : OpenClaim := { program := "ytngjfeielpnnnaa", sum := "60dbcacd8e5663b4f44af0d07cf0f0c697d97c51db210956671948017c43c335", func := "almonry/almonrylaw35.DiffTurned", spec := "diffTurned", inPlace := ["math.Float64bits"], unfollowed := true, recurses := true, apart := false }
def DiffTurnedSaid : Prop := diffTurnedRow.holds Try.pinned (OpenSpec.ofChange diffTurnedSpec)

/-- ITS FALSE NEIGHBOUR: 'it returns false'. Refute it at one input. -/
def diffTurnedWrong : ChangeSpec := { name := "diffTurned", fn := fun _ => fun
  | [d1, d2] => { results := [.lit (.bool false)], args := [d1, d2] }
  | _ => none }
def DiffTurnedWrongFalsely : Prop := diffTurnedRow.holds Try.pinned (OpenSpec.ofChange diffTurnedWrong)

/- THE SECOND FORM. 'bulk': how many values and letters a reading holds, each counted each time it is reached (what is shared counts as often as it is met; a slice's spare places count too). A statement '..UptoSaid' is the law's where the arguments, and the package variables that the reading takes, are together of bulk at most 1048576: NARROWER than '..Said'. Prove '..Said' where nothing that the law and all that it calls make is longer than what came in: it says more and counts as full. Else prove '..UptoSaid'. A law counts once. -/
mutual
def uptoBulk {H : Type} : DataW H → Nat
  | .lit (.string bytes) => bytes.length + 1
  | .lit _ => 1
  | .nil => 1
  | .ptr d => uptoBulk d + 1
  | .slice elems spare => uptoBulkAll elems + uptoBulkAll spare + 1
  | .agg parts => uptoBulkAll parts + 1
  | .iface _ d => uptoBulk d + 1
  | .map entries => uptoBulkEntries entries + 1
  | .held _ => 1
def uptoBulkAll {H : Type} : List (DataW H) → Nat
  | [] => 0
  | d :: r => uptoBulk d + uptoBulkAll r
def uptoBulkEntries {H : Type} : List (Lit × DataW H) → Nat
  | [] => 0
  | x :: r => uptoBulkEntry x + uptoBulkEntries r
def uptoBulkEntry {H : Type} : Lit × DataW H → Nat
  | (.string bytes, d) => bytes.length + uptoBulk d + 1
  | (_, d) => uptoBulk d + 1
 end
def uptoSmall : (H : Type) → List (DataW H) → Bool := fun _ ds => decide (uptoBulkAll ds ≤ 1048576)
def OpenSpec.upto (s : _root_.Go.ChangeSpec) : _root_.Go.OpenSpec := { _root_.Go.OpenSpec.ofChange s with cond := some uptoSmall }

/-- 'almonrylaw05.FloatOrder', WHERE WHAT IT READS IS OF BULK AT MOST 1048576: true; the input reads as it did. -/
def floatOrderUptoRow : OpenClaim := { program := "ytngjfeielpnnnaa", sum := "60dbcacd8e5663b4f44af0d07cf0f0c697d97c51db210956671948017c43c335", func := "almonry/almonrylaw05.FloatOrder", spec := "floatOrder", inPlace := ["math.Float64frombits", "math.Float64bits"], unfollowed := true, recurses := true, apart := false, narrowed := true }
def FloatOrderUptoSaid : Prop := floatOrderUptoRow.holds Try.pinned (OpenSpec.upto floatOrderSpec)

/-- 'almonrylaw05.FloatSorts', WHERE WHAT IT READS IS OF BULK AT MOST 1048576: true; the input reads as it did. -/
def floatSortsUptoRow : OpenClaim := { program := "ytngjfeielpnnnaa", sum := "60dbcacd8e5663b4f44af0d07cf0f0c697d97c51db210956671948017c43c335", func := "almonry/almonrylaw05.FloatSorts", spec := "floatSorts", inPlace := ["math.Float64frombits", "math.Float64bits"], unfollowed := true, recurses := true, apart := false, narrowed := true }
def FloatSortsUptoSaid : Prop := floatSortsUptoRow.holds Try.pinned (OpenSpec.upto floatSortsSpec)

/-- 'almonrylaw33.StatsTell', WHERE WHAT IT READS IS OF BULK AT MOST 1048576: true; the input reads as it did. -/
def statsTellUptoRow : OpenClaim := { program := "ytngjfeielpnnnaa", sum := "60dbcacd8e5663b4f44af0d07cf0f0c697d97c51db210956671948017c43c335", func := "almonry/almonrylaw33.StatsTell", spec := "statsTell", inPlace := ["math.Float64frombits", "math.Float64bits"], unfollowed := true, recurses := true, apart := false, narrowed := true }
def StatsTellUptoSaid : Prop := statsTellUptoRow.holds Try.pinned (OpenSpec.upto statsTellSpec)

/-- 'almonrylaw33.StatsTurned', WHERE WHAT IT READS IS OF BULK AT MOST 1048576: true; the input reads as it did. -/
def statsTurnedUptoRow : OpenClaim := { program := "ytngjfeielpnnnaa", sum := "60dbcacd8e5663b4f44af0d07cf0f0c697d97c51db210956671948017c43c335", func := "almonry/almonrylaw33.StatsTurned", spec := "statsTurned", inPlace := ["math.Float64frombits", "math.Float64bits"], unfollowed := true, recurses := true, apart := false, narrowed := true }
def StatsTurnedUptoSaid : Prop := statsTurnedUptoRow.holds Try.pinned (OpenSpec.upto statsTurnedSpec)

/-- 'almonrylaw05.FloatKeys', WHERE WHAT IT READS IS OF BULK AT MOST 1048576: true; the input reads as it did. -/
def floatKeysUptoRow : OpenClaim := { program := "ytngjfeielpnnnaa", sum := "60dbcacd8e5663b4f44af0d07cf0f0c697d97c51db210956671948017c43c335", func := "almonry/almonrylaw05.FloatKeys", spec := "floatKeys", inPlace := ["math.Float64frombits", "math.Float64bits"], unfollowed := true, recurses := true, apart := false, narrowed := true }
def FloatKeysUptoSaid : Prop := floatKeysUptoRow.holds Try.pinned (OpenSpec.upto floatKeysSpec)

/-- 'almonrylaw05.FloatBack', WHERE WHAT IT READS IS OF BULK AT MOST 1048576: true; the input reads as it did. -/
def floatBackUptoRow : OpenClaim := { program := "ytngjfeielpnnnaa", sum := "60dbcacd8e5663b4f44af0d07cf0f0c697d97c51db210956671948017c43c335", func := "almonry/almonrylaw05.FloatBack", spec := "floatBack", inPlace := ["math.Float64frombits", "math.Float64bits"], unfollowed := true, recurses := true, apart := false, narrowed := true }
def FloatBackUptoSaid : Prop := floatBackUptoRow.holds Try.pinned (OpenSpec.upto floatBackSpec)

/-- 'almonrylaw51.HistBoxes', WHERE WHAT IT READS IS OF BULK AT MOST 1048576: true; the input reads as it did. -/
def histBoxesUptoRow : OpenClaim := { program := "ytngjfeielpnnnaa", sum := "60dbcacd8e5663b4f44af0d07cf0f0c697d97c51db210956671948017c43c335", func := "almonry/almonrylaw51.HistBoxes", spec := "histBoxes", inPlace := ["math.Float64frombits", "math.Float64bits"], unfollowed := true, recurses := true, apart := false, narrowed := true }
def HistBoxesUptoSaid : Prop := histBoxesUptoRow.holds Try.pinned (OpenSpec.upto histBoxesSpec)

/-- 'almonrylaw51.HistAll', WHERE WHAT IT READS IS OF BULK AT MOST 1048576: true; the input reads as it did. -/
def histAllUptoRow : OpenClaim := { program := "ytngjfeielpnnnaa", sum := "60dbcacd8e5663b4f44af0d07cf0f0c697d97c51db210956671948017c43c335", func := "almonry/almonrylaw51.HistAll", spec := "histAll", inPlace := ["math.Float64frombits", "math.Float64bits"], unfollowed := true, recurses := true, apart := false, narrowed := true }
def HistAllUptoSaid : Prop := histAllUptoRow.holds Try.pinned (OpenSpec.upto histAllSpec)

/-- 'almonrylaw22.QueryLists', WHERE WHAT IT READS IS OF BULK AT MOST 1048576: true; the input reads as it did. -/
def queryListsUptoRow : OpenClaim := { program := "ytngjfeielpnnnaa", sum := "60dbcacd8e5663b4f44af0d07cf0f0c697d97c51db210956671948017c43c335", func := "almonry/almonrylaw22.QueryLists", spec := "queryLists", inPlace := ["math.Float64frombits", "math.Float64bits"], unfollowed := true, recurses := true, apart := false, narrowed := true }
def QueryListsUptoSaid : Prop := queryListsUptoRow.holds Try.pinned (OpenSpec.upto queryListsSpec)

/-- 'almonrylaw22.QueryAll', WHERE WHAT IT READS IS OF BULK AT MOST 1048576: true; the input reads as it did. -/
def queryAllUptoRow : OpenClaim := { program := "ytngjfeielpnnnaa", sum := "60dbcacd8e5663b4f44af0d07cf0f0c697d97c51db210956671948017c43c335", func := "almonry/almonrylaw22.QueryAll", spec := "queryAll", inPlace := ["math.Float64frombits", "math.Float64bits"], unfollowed := true, recurses := true, apart := false, narrowed := true }
def QueryAllUptoSaid : Prop := queryAllUptoRow.holds Try.pinned (OpenSpec.upto queryAllSpec)

/-- 'almonrylaw35.DiffOf', WHERE WHAT IT READS IS OF BULK AT MOST 1048576: true; the input reads as it did. -/
def diffOfUptoRow : OpenClaim := { program := "ytngjfeielpnnnaa", sum := "60dbcacd8e5663b4f44af0d07cf0f0c697d97c51db210956671948017c43c335", func := "almonry/almonrylaw35.DiffOf", spec := "diffOf", inPlace := ["math.Float64bits"], unfollowed := true, recurses := true, apart := false, narrowed := true }
def DiffOfUptoSaid : Prop := diffOfUptoRow.holds Try.pinned (OpenSpec.upto diffOfSpec)

/-- 'almonrylaw35.DiffTurned', WHERE WHAT IT READS IS OF BULK AT MOST 1048576: true; the input reads as it did. -/
def diffTurnedUptoRow : OpenClaim := { program := "ytngjfeielpnnnaa", sum := "60dbcacd8e5663b4f44af0d07cf0f0c697d97c51db210956671948017c43c335", func := "almonry/almonrylaw35.DiffTurned", spec := "diffTurned", inPlace := ["math.Float64bits"], unfollowed := true, recurses := true, apart := false, narrowed := true }
def DiffTurnedUptoSaid : Prop := diffTurnedUptoRow.holds Try.pinned (OpenSpec.upto diffTurnedSpec)

end Rows
end Go.Proofs.Ytngjfeielpnnnaa
