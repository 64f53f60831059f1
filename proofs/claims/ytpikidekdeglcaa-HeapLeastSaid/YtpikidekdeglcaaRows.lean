/-
  No cell of these rows narrows 'for every input' (looked for: loops, veiled, ifaces, maps, wideKeys, modest, calm, conditions, laid).
  DERIVED. THE GIVEN ROWS OF THIS SEAT. 3 by the template 'for every input the law returns true; each argument reads behind the call as it read before'; 0 by the template 'total and deterministic' (their statements: YtpikidekdeglcaaTotals.lean).
  GIVEN WITH THE SEED: the statements are not yours to turn. If you find one false, say at which input.
  Laid BY PROGRAM, IN A SANDBOX (cutbox-rows.mjs): the forced cells as the released guide's own fill.sh prints them over the translation d0ddefd7338f18e5… (all of the seat's roots in one cut). By AI agents, Wed Nov 11 2026. No macro, syntax, notation, axiom, sorry.
-/
import Derived.Test.YtpikidekdeglcaaChecked
import GoSem.Claim
import GoSem.ClaimJoined
import GoSem.ClaimMapViews
import Derived.JoinedTies
import Derived.KernelRfl
namespace Go.Proofs.Ytpikidekdeglcaa
/- THE CELL 'sum', in the pinned program and in every row, IS THE sha256 OF THE DUMP (.gsa) THAT YtpikidekdeglcaaProg.lean LOADS. Nothing in Lean hashes anything: it is a label: what it is worth is what the hold of that sum in a sandbox is worth. -/
noncomputable def Try.pinned : Pinned := { name := "ytpikidekdeglcaa", sum := "d0ddefd7338f18e5c47d4f4ff00e74efe92822f50d87c01432b1d29edda8c330", checked := Try.checked }
namespace Rows
def none {H : Type} : Left H := { results := [], args := [] }

/-- 'tarnlaw13.HeapLeast': WHATEVER THE INPUT: true; the input reads as it did. -/
def heapLeastSpec : ChangeSpec := { name := "heapLeast", fn := fun _ => fun
  | [d] => { results := [.lit (.bool true)], args := [d] }
  | _ => none }
def heapLeastRow : OpenClaim := { program := "ytpikidekdeglcaa", sum := "d0ddefd7338f18e5c47d4f4ff00e74efe92822f50d87c01432b1d29edda8c330", func := "tarn/tarnlaw13.HeapLeast", spec := "heapLeast", unfollowed := true, recurses := true, apart := false }
def HeapLeastSaid : Prop := heapLeastRow.holds Try.pinned (OpenSpec.ofChange heapLeastSpec)

/-- ITS FALSE NEIGHBOUR: 'it returns false'. Refute it at one input. -/
def heapLeastWrong : ChangeSpec := { name := "heapLeast", fn := fun _ => fun
  | [d] => { results := [.lit (.bool false)], args := [d] }
  | _ => none }
def HeapLeastWrongFalsely : Prop := heapLeastRow.holds Try.pinned (OpenSpec.ofChange heapLeastWrong)

/-- 'tarnlaw13.HeapExact': WHATEVER THE INPUT: true; the input reads as it did. -/
def heapExactSpec : ChangeSpec := { name := "heapExact", fn := fun _ => fun
  | [d] => { results := [.lit (.bool true)], args := [d] }
  | _ => none }
def heapExactRow : OpenClaim := { program := "ytpikidekdeglcaa", sum := "d0ddefd7338f18e5c47d4f4ff00e74efe92822f50d87c01432b1d29edda8c330", func := "tarn/tarnlaw13.HeapExact", spec := "heapExact", unfollowed := true, recurses := true, apart := false }
def HeapExactSaid : Prop := heapExactRow.holds Try.pinned (OpenSpec.ofChange heapExactSpec)

/-- ITS FALSE NEIGHBOUR: 'it returns false'. Refute it at one input. -/
def heapExactWrong : ChangeSpec := { name := "heapExact", fn := fun _ => fun
  | [d] => { results := [.lit (.bool false)], args := [d] }
  | _ => none }
def HeapExactWrongFalsely : Prop := heapExactRow.holds Try.pinned (OpenSpec.ofChange heapExactWrong)

/-- 'tarnlaw27.MeterFiles': WHATEVER THE INPUT: true; the input reads as it did. -/
def meterFilesSpec : ChangeSpec := { name := "meterFiles", fn := fun _ => fun
  | [d] => { results := [.lit (.bool true)], args := [d] }
  | _ => none }
def meterFilesRow : OpenClaim := { program := "ytpikidekdeglcaa", sum := "d0ddefd7338f18e5c47d4f4ff00e74efe92822f50d87c01432b1d29edda8c330", func := "tarn/tarnlaw27.MeterFiles", spec := "meterFiles", inPlace := ["math/bits.Add64"], unfollowed := true, recurses := true, apart := false }
def MeterFilesSaid : Prop := meterFilesRow.holds Try.pinned (OpenSpec.ofChange meterFilesSpec)

/-- ITS FALSE NEIGHBOUR: 'it returns false'. Refute it at one input. -/
def meterFilesWrong : ChangeSpec := { name := "meterFiles", fn := fun _ => fun
  | [d] => { results := [.lit (.bool false)], args := [d] }
  | _ => none }
def MeterFilesWrongFalsely : Prop := meterFilesRow.holds Try.pinned (OpenSpec.ofChange meterFilesWrong)

/- THE SECOND FORM. 'bulk': how many values and letters a reading holds, each counted each time it is reached (what is shared counts as often as it is met; a slice's spare places count too). A statement '..UptoSaid' is the law's where the arguments, and the package variables that the reading takes, are together of bulk at most 1048576: NARROWER than '..Said'. Prove '..Said' where nothing that the law and all that it calls make is longer than what came in: it says more and counts as full. Else prove '..UptoSaid'. A law counts once. -/
mutual
def uptoBulk {H : Type} : DataW H → Nat
  | .lit (.string bytes) => bytes.length + 1
  | .lit _ => 1
  | .nil => 1
  | .ptr d => uptoBulk d + 1
  | .slice elems spare => uptoBulkAll elems + uptoBulkAll spare + 1
  | .agg parts => uptoBulkAll parts + 1
  | .iface _ d => uptoBulk d + 1
  | .map entries => uptoBulkEntries entries + 1
  | .held _ => 1
def uptoBulkAll {H : Type} : List (DataW H) → Nat
  | [] => 0
  | d :: r => uptoBulk d + uptoBulkAll r
def uptoBulkEntries {H : Type} : List (Lit × DataW H) → Nat
  | [] => 0
  | x :: r => uptoBulkEntry x + uptoBulkEntries r
def uptoBulkEntry {H : Type} : Lit × DataW H → Nat
  | (.string bytes, d) => bytes.length + uptoBulk d + 1
  | (_, d) => uptoBulk d + 1
 end
def uptoSmall : (H : Type) → List (DataW H) → Bool := fun _ ds => decide (uptoBulkAll ds ≤ 1048576)
def OpenSpec.upto (s : _root_.Go.ChangeSpec) : _root_.Go.OpenSpec := { _root_.Go.OpenSpec.ofChange s with cond := some uptoSmall }

/-- 'tarnlaw13.HeapLeast', WHERE WHAT IT READS IS OF BULK AT MOST 1048576: true; the input reads as it did. -/
def heapLeastUptoRow : OpenClaim := { program := "ytpikidekdeglcaa", sum := "d0ddefd7338f18e5c47d4f4ff00e74efe92822f50d87c01432b1d29edda8c330", func := "tarn/tarnlaw13.HeapLeast", spec := "heapLeast", unfollowed := true, recurses := true, apart := false, narrowed := true }
def HeapLeastUptoSaid : Prop := heapLeastUptoRow.holds Try.pinned (OpenSpec.upto heapLeastSpec)

/-- 'tarnlaw13.HeapExact', WHERE WHAT IT READS IS OF BULK AT MOST 1048576: true; the input reads as it did. -/
def heapExactUptoRow : OpenClaim := { program := "ytpikidekdeglcaa", sum := "d0ddefd7338f18e5c47d4f4ff00e74efe92822f50d87c01432b1d29edda8c330", func := "tarn/tarnlaw13.HeapExact", spec := "heapExact", unfollowed := true, recurses := true, apart := false, narrowed := true }
def HeapExactUptoSaid : Prop := heapExactUptoRow.holds Try.pinned (OpenSpec.upto heapExactSpec)

/-- 'tarnlaw27.MeterFiles', WHERE WHAT IT READS IS OF BULK AT MOST 1048576: true; the input reads as it did. -/
def meterFilesUptoRow : OpenClaim := { program := "ytpikidekdeglcaa", sum := "d0ddefd7338f18e5c47d4f4ff00e74efe92822f50d87c01432b1d29edda8c330", func := "tarn/tarnlaw27.MeterFiles", spec := "meterFiles", inPlace := ["math/bits.Add64"], unfollowed := true, recurses := true, apart := false, narrowed := true }
def MeterFilesUptoSaid : Prop := meterFilesUptoRow.holds Try.pinned (OpenSpec.upto meterFilesSpec)

end Rows
end Go.Proofs.Ytpikidekdeglcaa
