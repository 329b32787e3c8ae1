/-
  No cell of these rows narrows 'for every input' (looked for: loops, veiled, ifaces, maps, wideKeys, modest, calm, conditions, laid).
  DERIVED. THE GIVEN ROWS OF THIS SEAT. 4 by the template 'for every input the law returns true; each argument reads behind the call as it read before'; 0 by the template 'total and deterministic' (their statements: YtjobdncikpnojaaTotals.lean).
  GIVEN WITH THE SEED: the statements are not yours to turn. If you find one false, say at which input.
  Laid BY PROGRAM, IN A SANDBOX (cutbox-rows.mjs): the forced cells as the released guide's own fill.sh prints them over the translation eb83e7297f5a4ca5… (all of the seat's roots in one cut). By AI agents, Wed Nov 11 2026. No macro, syntax, notation, axiom, sorry.
-/
import Derived.Test.YtjobdncikpnojaaChecked
import GoSem.Claim
import GoSem.ClaimJoined
import GoSem.ClaimMapViews
import Derived.JoinedTies
import Derived.KernelRfl
namespace Go.Proofs.Ytjobdncikpnojaa
/- THE CELL 'sum', in the pinned program and in every row, IS THE sha256 OF THE DUMP (.gsa) THAT YtjobdncikpnojaaProg.lean LOADS. Nothing in Lean hashes anything: it is a label: what it is worth is what the hold of that sum in a sandbox is worth. -/
noncomputable def Try.pinned : Pinned := { name := "ytjobdncikpnojaa", sum := "eb83e7297f5a4ca56c251533ac9a195dfee72c1c393ce4dc6c825fd921965b52", checked := Try.checked }
namespace Rows
def none {H : Type} : Left H := { results := [], args := [] }

/-- 'byrelaw22.TasksNone': WHATEVER THE INPUT: true; the input reads as it did. -/
def tasksNoneSpec : ChangeSpec := { name := "tasksNone", fn := fun _ => fun
  | [d1, d2] => { results := [.lit (.bool true)], args := [d1, d2] }
  | _ => none }
def tasksNoneRow : OpenClaim := { program := "ytjobdncikpnojaa", sum := "eb83e7297f5a4ca56c251533ac9a195dfee72c1c393ce4dc6c825fd921965b52", func := "byre/byrelaw22.TasksNone", spec := "tasksNone", unfollowed := true, recurses := true, apart := false }
def TasksNoneSaid : Prop := tasksNoneRow.holds Try.pinned (OpenSpec.ofChange tasksNoneSpec)

/-- ITS FALSE NEIGHBOUR: 'it returns false'. Refute it at one input. -/
def tasksNoneWrong : ChangeSpec := { name := "tasksNone", fn := fun _ => fun
  | [d1, d2] => { results := [.lit (.bool false)], args := [d1, d2] }
  | _ => none }
def TasksNoneWrongFalsely : Prop := tasksNoneRow.holds Try.pinned (OpenSpec.ofChange tasksNoneWrong)

/-- 'byrelaw22.TasksEnd': WHATEVER THE INPUT: true; the input reads as it did. -/
def tasksEndSpec : ChangeSpec := { name := "tasksEnd", fn := fun _ => fun
  | [d] => { results := [.lit (.bool true)], args := [d] }
  | _ => none }
def tasksEndRow : OpenClaim := { program := "ytjobdncikpnojaa", sum := "eb83e7297f5a4ca56c251533ac9a195dfee72c1c393ce4dc6c825fd921965b52", func := "byre/byrelaw22.TasksEnd", spec := "tasksEnd", unfollowed := true, recurses := true, apart := false }
def TasksEndSaid : Prop := tasksEndRow.holds Try.pinned (OpenSpec.ofChange tasksEndSpec)

/-- ITS FALSE NEIGHBOUR: 'it returns false'. Refute it at one input. -/
def tasksEndWrong : ChangeSpec := { name := "tasksEnd", fn := fun _ => fun
  | [d] => { results := [.lit (.bool false)], args := [d] }
  | _ => none }
def TasksEndWrongFalsely : Prop := tasksEndRow.holds Try.pinned (OpenSpec.ofChange tasksEndWrong)

/-- 'byrelaw22.TasksAlone': WHATEVER THE INPUT: true; the input reads as it did. -/
def tasksAloneSpec : ChangeSpec := { name := "tasksAlone", fn := fun _ => fun
  | [d] => { results := [.lit (.bool true)], args := [d] }
  | _ => none }
def tasksAloneRow : OpenClaim := { program := "ytjobdncikpnojaa", sum := "eb83e7297f5a4ca56c251533ac9a195dfee72c1c393ce4dc6c825fd921965b52", func := "byre/byrelaw22.TasksAlone", spec := "tasksAlone", unfollowed := true, recurses := true, apart := false }
def TasksAloneSaid : Prop := tasksAloneRow.holds Try.pinned (OpenSpec.ofChange tasksAloneSpec)

/-- ITS FALSE NEIGHBOUR: 'it returns false'. Refute it at one input. -/
def tasksAloneWrong : ChangeSpec := { name := "tasksAlone", fn := fun _ => fun
  | [d] => { results := [.lit (.bool false)], args := [d] }
  | _ => none }
def TasksAloneWrongFalsely : Prop := tasksAloneRow.holds Try.pinned (OpenSpec.ofChange tasksAloneWrong)

/-- 'byrelaw22.TasksPlays': WHATEVER THE INPUT: true; the input reads as it did. -/
def tasksPlaysSpec : ChangeSpec := { name := "tasksPlays", fn := fun _ => fun
  | [d1, d2] => { results := [.lit (.bool true)], args := [d1, d2] }
  | _ => none }
def tasksPlaysRow : OpenClaim := { program := "ytjobdncikpnojaa", sum := "eb83e7297f5a4ca56c251533ac9a195dfee72c1c393ce4dc6c825fd921965b52", func := "byre/byrelaw22.TasksPlays", spec := "tasksPlays", unfollowed := true, recurses := true, apart := false }
def TasksPlaysSaid : Prop := tasksPlaysRow.holds Try.pinned (OpenSpec.ofChange tasksPlaysSpec)

/-- ITS FALSE NEIGHBOUR: 'it returns false'. Refute it at one input. -/
def tasksPlaysWrong : ChangeSpec := { name := "tasksPlays", fn := fun _ => fun
  | [d1, d2] => { results := [.lit (.bool false)], args := [d1, d2] }
  | _ => none }
def TasksPlaysWrongFalsely : Prop := tasksPlaysRow.holds Try.pinned (OpenSpec.ofChange tasksPlaysWrong)

/- THE SECOND FORM. 'bulk': how many values and letters a reading holds, each counted each time it is reached (what is shared counts as often as it is met; a slice's spare places count too). A statement '..UptoSaid' is the law's where the arguments, and the package variables that the reading takes, are together of bulk at most 1048576: NARROWER than '..Said'. Prove '..Said' where nothing that the law and all that it calls make is longer than what came in: it says more and counts as full. Else prove '..UptoSaid'. A law counts once. -/
mutual
def uptoBulk {H : Type} : DataW H → Nat
  | .lit (.string bytes) => bytes.length + 1
  | .lit _ => 1
  | .nil => 1
  | .ptr d => uptoBulk d + 1
  | .slice elems spare => uptoBulkAll elems + uptoBulkAll spare + 1
  | .agg parts => uptoBulkAll parts + 1
  | .iface _ d => uptoBulk d + 1
  | .map entries => uptoBulkEntries entries + 1
  | .held _ => 1
def uptoBulkAll {H : Type} : List (DataW H) → Nat
  | [] => 0
  | d :: r => uptoBulk d + uptoBulkAll r
def uptoBulkEntries {H : Type} : List (Lit × DataW H) → Nat
  | [] => 0
  | x :: r => uptoBulkEntry x + uptoBulkEntries r
def uptoBulkEntry {H : Type} : Lit × DataW H → Nat
  | (.string bytes, d) => bytes.length + uptoBulk d + 1
  | (_, d) => uptoBulk d + 1
 end
def uptoSmall : (H : Type) → List (DataW H) → Bool := fun _ ds => decide (uptoBulkAll ds ≤ 1048576)
def OpenSpec.upto (s : _root_.Go.ChangeSpec) : _root_.Go.OpenSpec := { _root_.Go.OpenSpec.ofChange s with cond := some uptoSmall }

/-- 'byrelaw22.TasksNone', WHERE WHAT IT READS IS OF BULK AT MOST 1048576: true; the input reads as it did. -/
def tasksNoneUptoRow : OpenClaim := { program := "ytjobdncikpnojaa", sum := "eb83e7297f5a4ca56c251533ac9a195dfee72c1c393ce4dc6c825fd921965b52", func := "byre/byrelaw22.TasksNone", spec := "tasksNone", unfollowed := true, recurses := true, apart := false, narrowed := true }
def TasksNoneUptoSaid : Prop := tasksNoneUptoRow.holds Try.pinned (OpenSpec.upto tasksNoneSpec)

/-- 'byrelaw22.TasksEnd', WHERE WHAT IT READS IS OF BULK AT MOST 1048576: true; the input reads as it did. -/
def tasksEndUptoRow : OpenClaim := { program := "ytjobdncikpnojaa", sum := "eb83e7297f5a4ca56c251533ac9a195dfee72c1c393ce4dc6c825fd921965b52", func := "byre/byrelaw22.TasksEnd", spec := "tasksEnd", unfollowed := true, recurses := true, apart := false, narrowed := true }
def TasksEndUptoSaid : Prop := tasksEndUptoRow.holds Try.pinned (OpenSpec.upto tasksEndSpec)

/-- 'byrelaw22.TasksAlone', WHERE WHAT IT READS IS OF BULK AT MOST 1048576: true; the input reads as it did. -/
def tasksAloneUptoRow : OpenClaim := { program := "ytjobdncikpnojaa", sum := "eb83e7297f5a4ca56c251533ac9a195dfee72c1c393ce4dc6c825fd921965b52", func := "byre/byrelaw22.TasksAlone", spec := "tasksAlone", unfollowed := true, recurses := true, apart := false, narrowed := true }
def TasksAloneUptoSaid : Prop := tasksAloneUptoRow.holds Try.pinned (OpenSpec.upto tasksAloneSpec)

/-- 'byrelaw22.TasksPlays', WHERE WHAT IT READS IS OF BULK AT MOST 1048576: true; the input reads as it did. -/
def tasksPlaysUptoRow : OpenClaim := { program := "ytjobdncikpnojaa", sum := "eb83e7297f5a4ca56c251533ac9a195dfee72c1c393ce4dc6c825fd921965b52", func := "byre/byrelaw22.TasksPlays", spec := "tasksPlays", unfollowed := true, recurses := true, apart := false, narrowed := true }
def TasksPlaysUptoSaid : Prop := tasksPlaysUptoRow.holds Try.pinned (OpenSpec.upto tasksPlaysSpec)

end Rows
end Go.Proofs.Ytjobdncikpnojaa
