/-
  No cell of these rows narrows 'for every input' (looked for: loops, veiled, ifaces, maps, wideKeys, modest, calm, conditions, laid).
  DERIVED. THE GIVEN ROWS OF THIS SEAT. 6 by the template 'for every input the law returns true; each argument reads behind the call as it read before'; 0 by the template 'total and deterministic' (their statements: YtfblmmnofhkkaaaTotals.lean).
  GIVEN WITH THE SEED: the statements are not yours to turn. If you find one false, say at which input.
  Laid BY PROGRAM, IN A SANDBOX (cutbox-rows.mjs): the forced cells as the released guide's own fill.sh prints them over the translation 09e9fc3c133def45… (all of the seat's roots in one cut). By AI agents, Wed Nov 11 2026. No macro, syntax, notation, axiom, sorry.
-/
import Derived.Test.YtfblmmnofhkkaaaChecked
import GoSem.Claim
import GoSem.ClaimJoined
import GoSem.ClaimMapViews
import Derived.JoinedTies
import Derived.KernelRfl
namespace Go.Proofs.Ytfblmmnofhkkaaa
/- THE CELL 'sum', in the pinned program and in every row, IS THE sha256 OF THE DUMP (.gsa) THAT YtfblmmnofhkkaaaProg.lean LOADS. Nothing in Lean hashes anything: it is a label: what it is worth is what the hold of that sum in a sandbox is worth. -/
noncomputable def Try.pinned : Pinned := { name := "ytfblmmnofhkkaaa", sum := "09e9fc3c133def45d6c819f00010f232dfa384e90b91edca88ae18e1db6d76f5", checked := Try.checked }
namespace Rows
def none {H : Type} : Left H := { results := [], args := [] }

/-- 'waterwheellaw11.BufferFull': WHATEVER THE INPUT: true; the input reads as it did. -/
def bufferFullSpec : ChangeSpec := { name := "bufferFull", fn := fun _ => fun
  | [d1, d2] => { results := [.lit (.bool true)], args := [d1, d2] }
  | _ => none }
def bufferFullRow : OpenClaim := { program := "ytfblmmnofhkkaaa", sum := "09e9fc3c133def45d6c819f00010f232dfa384e90b91edca88ae18e1db6d76f5", func := "waterwheel/waterwheellaw11.BufferFull", spec := "bufferFull", inPlace := ["slices.overlaps[*waterwheel/buffer.block]"], unfollowed := true, recurses := true, apart := false }
def BufferFullSaid : Prop := bufferFullRow.holds Try.pinned (OpenSpec.ofChange bufferFullSpec)

/-- ITS FALSE NEIGHBOUR: 'it returns false'. Refute it at one input. -/
def bufferFullWrong : ChangeSpec := { name := "bufferFull", fn := fun _ => fun
  | [d1, d2] => { results := [.lit (.bool false)], args := [d1, d2] }
  | _ => none }
def BufferFullWrongFalsely : Prop := bufferFullRow.holds Try.pinned (OpenSpec.ofChange bufferFullWrong)

/-- 'waterwheellaw11.BufferNames': WHATEVER THE INPUT: true; the input reads as it did. -/
def bufferNamesSpec : ChangeSpec := { name := "bufferNames", fn := fun _ => fun
  | [] => { results := [.lit (.bool true)], args := [] }
  | _ => none }
def bufferNamesRow : OpenClaim := { program := "ytfblmmnofhkkaaa", sum := "09e9fc3c133def45d6c819f00010f232dfa384e90b91edca88ae18e1db6d76f5", func := "waterwheel/waterwheellaw11.BufferNames", spec := "bufferNames", inPlace := ["slices.overlaps[*waterwheel/buffer.block]"], unfollowed := true, recurses := true, apart := false }
def BufferNamesSaid : Prop := bufferNamesRow.holds Try.pinned (OpenSpec.ofChange bufferNamesSpec)

/-- ITS FALSE NEIGHBOUR: 'it returns false'. Refute it at one input. -/
def bufferNamesWrong : ChangeSpec := { name := "bufferNames", fn := fun _ => fun
  | [] => { results := [.lit (.bool false)], args := [] }
  | _ => none }
def BufferNamesWrongFalsely : Prop := bufferNamesRow.holds Try.pinned (OpenSpec.ofChange bufferNamesWrong)

/-- 'waterwheellaw11.BufferTrims': WHATEVER THE INPUT: true; the input reads as it did. -/
def bufferTrimsSpec : ChangeSpec := { name := "bufferTrims", fn := fun _ => fun
  | [d1, d2, d3] => { results := [.lit (.bool true)], args := [d1, d2, d3] }
  | _ => none }
def bufferTrimsRow : OpenClaim := { program := "ytfblmmnofhkkaaa", sum := "09e9fc3c133def45d6c819f00010f232dfa384e90b91edca88ae18e1db6d76f5", func := "waterwheel/waterwheellaw11.BufferTrims", spec := "bufferTrims", inPlace := ["slices.overlaps[*waterwheel/buffer.block]"], unfollowed := true, recurses := true, apart := false }
def BufferTrimsSaid : Prop := bufferTrimsRow.holds Try.pinned (OpenSpec.ofChange bufferTrimsSpec)

/-- ITS FALSE NEIGHBOUR: 'it returns false'. Refute it at one input. -/
def bufferTrimsWrong : ChangeSpec := { name := "bufferTrims", fn := fun _ => fun
  | [d1, d2, d3] => { results := [.lit (.bool false)], args := [d1, d2, d3] }
  | _ => none }
def BufferTrimsWrongFalsely : Prop := bufferTrimsRow.holds Try.pinned (OpenSpec.ofChange bufferTrimsWrong)

/-- 'waterwheellaw11.BufferFree': WHATEVER THE INPUT: true; the input reads as it did. -/
def bufferFreeSpec : ChangeSpec := { name := "bufferFree", fn := fun _ => fun
  | [d1, d2, d3, d4, d5] => { results := [.lit (.bool true)], args := [d1, d2, d3, d4, d5] }
  | _ => none }
def bufferFreeRow : OpenClaim := { program := "ytfblmmnofhkkaaa", sum := "09e9fc3c133def45d6c819f00010f232dfa384e90b91edca88ae18e1db6d76f5", func := "waterwheel/waterwheellaw11.BufferFree", spec := "bufferFree", inPlace := ["slices.overlaps[*waterwheel/buffer.block]"], unfollowed := true, recurses := true, apart := false }
def BufferFreeSaid : Prop := bufferFreeRow.holds Try.pinned (OpenSpec.ofChange bufferFreeSpec)

/-- ITS FALSE NEIGHBOUR: 'it returns false'. Refute it at one input. -/
def bufferFreeWrong : ChangeSpec := { name := "bufferFree", fn := fun _ => fun
  | [d1, d2, d3, d4, d5] => { results := [.lit (.bool false)], args := [d1, d2, d3, d4, d5] }
  | _ => none }
def BufferFreeWrongFalsely : Prop := bufferFreeRow.holds Try.pinned (OpenSpec.ofChange bufferFreeWrong)

/-- 'waterwheellaw11.BufferScript': WHATEVER THE INPUT: true; the input reads as it did. -/
def bufferScriptSpec : ChangeSpec := { name := "bufferScript", fn := fun _ => fun
  | [d1, d2, d3] => { results := [.lit (.bool true)], args := [d1, d2, d3] }
  | _ => none }
def bufferScriptRow : OpenClaim := { program := "ytfblmmnofhkkaaa", sum := "09e9fc3c133def45d6c819f00010f232dfa384e90b91edca88ae18e1db6d76f5", func := "waterwheel/waterwheellaw11.BufferScript", spec := "bufferScript", inPlace := ["slices.overlaps[*waterwheel/buffer.block]"], unfollowed := true, recurses := true, apart := false }
def BufferScriptSaid : Prop := bufferScriptRow.holds Try.pinned (OpenSpec.ofChange bufferScriptSpec)

/-- ITS FALSE NEIGHBOUR: 'it returns false'. Refute it at one input. -/
def bufferScriptWrong : ChangeSpec := { name := "bufferScript", fn := fun _ => fun
  | [d1, d2, d3] => { results := [.lit (.bool false)], args := [d1, d2, d3] }
  | _ => none }
def BufferScriptWrongFalsely : Prop := bufferScriptRow.holds Try.pinned (OpenSpec.ofChange bufferScriptWrong)

/-- 'waterwheellaw11.BufferNil': WHATEVER THE INPUT: true; the input reads as it did. -/
def bufferNilSpec : ChangeSpec := { name := "bufferNil", fn := fun _ => fun
  | [d1, d2] => { results := [.lit (.bool true)], args := [d1, d2] }
  | _ => none }
def bufferNilRow : OpenClaim := { program := "ytfblmmnofhkkaaa", sum := "09e9fc3c133def45d6c819f00010f232dfa384e90b91edca88ae18e1db6d76f5", func := "waterwheel/waterwheellaw11.BufferNil", spec := "bufferNil", inPlace := ["slices.overlaps[*waterwheel/buffer.block]"], unfollowed := true, recurses := true, apart := false }
def BufferNilSaid : Prop := bufferNilRow.holds Try.pinned (OpenSpec.ofChange bufferNilSpec)

/-- ITS FALSE NEIGHBOUR: 'it returns false'. Refute it at one input. -/
def bufferNilWrong : ChangeSpec := { name := "bufferNil", fn := fun _ => fun
  | [d1, d2] => { results := [.lit (.bool false)], args := [d1, d2] }
  | _ => none }
def BufferNilWrongFalsely : Prop := bufferNilRow.holds Try.pinned (OpenSpec.ofChange bufferNilWrong)

/- THE SECOND FORM. 'bulk': how many values and letters a reading holds, each counted each time it is reached (what is shared counts as often as it is met; a slice's spare places count too). A statement '..UptoSaid' is the law's where the arguments, and the package variables that the reading takes, are together of bulk at most 1048576: NARROWER than '..Said'. Prove '..Said' where nothing that the law and all that it calls make is longer than what came in: it says more and counts as full. Else prove '..UptoSaid'. A law counts once. -/
mutual
def uptoBulk {H : Type} : DataW H → Nat
  | .lit (.string bytes) => bytes.length + 1
  | .lit _ => 1
  | .nil => 1
  | .ptr d => uptoBulk d + 1
  | .slice elems spare => uptoBulkAll elems + uptoBulkAll spare + 1
  | .agg parts => uptoBulkAll parts + 1
  | .iface _ d => uptoBulk d + 1
  | .map entries => uptoBulkEntries entries + 1
  | .held _ => 1
def uptoBulkAll {H : Type} : List (DataW H) → Nat
  | [] => 0
  | d :: r => uptoBulk d + uptoBulkAll r
def uptoBulkEntries {H : Type} : List (Lit × DataW H) → Nat
  | [] => 0
  | x :: r => uptoBulkEntry x + uptoBulkEntries r
def uptoBulkEntry {H : Type} : Lit × DataW H → Nat
  | (.string bytes, d) => bytes.length + uptoBulk d + 1
  | (_, d) => uptoBulk d + 1
 end
def uptoSmall : (H : Type) → List (DataW H) → Bool := fun _ ds => decide (uptoBulkAll ds ≤ 1048576)
def OpenSpec.upto (s : _root_.Go.ChangeSpec) : _root_.Go.OpenSpec := { _root_.Go.OpenSpec.ofChange s with cond := some uptoSmall }

/-- 'waterwheellaw11.BufferFull', WHERE WHAT IT READS IS OF BULK AT MOST 1048576: true; the input reads as it did. -/
def bufferFullUptoRow : OpenClaim := { program := "ytfblmmnofhkkaaa", sum := "09e9fc3c133def45d6c819f00010f232dfa384e90b91edca88ae18e1db6d76f5", func := "waterwheel/waterwheellaw11.BufferFull", spec := "bufferFull", inPlace := ["slices.overlaps[*waterwheel/buffer.block]"], unfollowed := true, recurses := true, apart := false, narrowed := true }
def BufferFullUptoSaid : Prop := bufferFullUptoRow.holds Try.pinned (OpenSpec.upto bufferFullSpec)

/-- 'waterwheellaw11.BufferNames', WHERE WHAT IT READS IS OF BULK AT MOST 1048576: true; the input reads as it did. -/
def bufferNamesUptoRow : OpenClaim := { program := "ytfblmmnofhkkaaa", sum := "09e9fc3c133def45d6c819f00010f232dfa384e90b91edca88ae18e1db6d76f5", func := "waterwheel/waterwheellaw11.BufferNames", spec := "bufferNames", inPlace := ["slices.overlaps[*waterwheel/buffer.block]"], unfollowed := true, recurses := true, apart := false, narrowed := true }
def BufferNamesUptoSaid : Prop := bufferNamesUptoRow.holds Try.pinned (OpenSpec.upto bufferNamesSpec)

/-- 'waterwheellaw11.BufferTrims', WHERE WHAT IT READS IS OF BULK AT MOST 1048576: true; the input reads as it did. -/
def bufferTrimsUptoRow : OpenClaim := { program := "ytfblmmnofhkkaaa", sum := "09e9fc3c133def45d6c819f00010f232dfa384e90b91edca88ae18e1db6d76f5", func := "waterwheel/waterwheellaw11.BufferTrims", spec := "bufferTrims", inPlace := ["slices.overlaps[*waterwheel/buffer.block]"], unfollowed := true, recurses := true, apart := false, narrowed := true }
def BufferTrimsUptoSaid : Prop := bufferTrimsUptoRow.holds Try.pinned (OpenSpec.upto bufferTrimsSpec)

/-- 'waterwheellaw11.BufferFree', WHERE WHAT IT READS IS OF BULK AT MOST 1048576: true; the input reads as it did. -/
def bufferFreeUptoRow : OpenClaim := { program := "ytfblmmnofhkkaaa", sum := "09e9fc3c133def45d6c819f00010f232dfa384e90b91edca88ae18e1db6d76f5", func := "waterwheel/waterwheellaw11.BufferFree", spec := "bufferFree", inPlace := ["slices.overlaps[*waterwheel/buffer.block]"], unfollowed := true, recurses := true, apart := false, narrowed := true }
def BufferFreeUptoSaid : Prop := bufferFreeUptoRow.holds Try.pinned (OpenSpec.upto bufferFreeSpec)

/-- 'waterwheellaw11.BufferScript', WHERE WHAT IT READS IS OF BULK AT MOST 1048576: true; the input reads as it did. -/
def bufferScriptUptoRow : OpenClaim := { program := "ytfblmmnofhkkaaa", sum := "09e9fc3c133def45d6c819f00010f232dfa384e90b91edca88ae18e1db6d76f5", func := "waterwheel/waterwheellaw11.BufferScript", spec := "bufferScript", inPlace := ["slices.overlaps[*waterwheel/buffer.block]"], unfollowed := true, recurses := true, apart := false, narrowed := true }
def BufferScriptUptoSaid : Prop := bufferScriptUptoRow.holds Try.pinned (OpenSpec.upto bufferScriptSpec)

/-- 'waterwheellaw11.BufferNil', WHERE WHAT IT READS IS OF BULK AT MOST 1048576: true; the input reads as it did. -/
def bufferNilUptoRow : OpenClaim := { program := "ytfblmmnofhkkaaa", sum := "09e9fc3c133def45d6c819f00010f232dfa384e90b91edca88ae18e1db6d76f5", func := "waterwheel/waterwheellaw11.BufferNil", spec := "bufferNil", inPlace := ["slices.overlaps[*waterwheel/buffer.block]"], unfollowed := true, recurses := true, apart := false, narrowed := true }
def BufferNilUptoSaid : Prop := bufferNilUptoRow.holds Try.pinned (OpenSpec.upto bufferNilSpec)

end Rows
end Go.Proofs.Ytfblmmnofhkkaaa
