/-
  No cell of these rows narrows 'for every input' (looked for: loops, veiled, ifaces, maps, wideKeys, modest, calm, conditions, laid).
  DERIVED. THE GIVEN ROWS OF THIS SEAT. 6 by the template 'for every input the law returns true; each argument reads behind the call as it read before'; 0 by the template 'total and deterministic' (their statements: YtbhkgnhgecchcaaTotals.lean).
  GIVEN WITH THE SEED: the statements are not yours to turn. If you find one false, say at which input.
  Laid BY PROGRAM, IN A SANDBOX (cutbox-rows.mjs): the forced cells as the released guide's own fill.sh prints them over the translation 38a95ef02286890d… (all of the seat's roots in one cut). By AI agents, Wed Nov 11 2026. No macro, syntax, notation, axiom, sorry.
-/
import Derived.Test.YtbhkgnhgecchcaaChecked
import GoSem.Claim
import GoSem.ClaimJoined
import GoSem.ClaimMapViews
import Derived.JoinedTies
import Derived.KernelRfl
namespace Go.Proofs.Ytbhkgnhgecchcaa
/- THE CELL 'sum', in the pinned program and in every row, IS THE sha256 OF THE DUMP (.gsa) THAT YtbhkgnhgecchcaaProg.lean LOADS. Nothing in Lean hashes anything: it is a label: what it is worth is what the hold of that sum in a sandbox is worth. -/
noncomputable def Try.pinned : Pinned := { name := "ytbhkgnhgecchcaa", sum := "38a95ef02286890dc1fd0525bce1e26f869e3d2bd240fa4a7c5cb50ea5cc5a60", checked := Try.checked }
namespace Rows
def none {H : Type} : Left H := { results := [], args := [] }

/-- 'waterwheellaw14.SlideNil': WHATEVER THE INPUT: true; the input reads as it did. -/
def slideNilSpec : ChangeSpec := { name := "slideNil", fn := fun _ => fun
  | [d1, d2] => { results := [.lit (.bool true)], args := [d1, d2] }
  | _ => none }
def slideNilRow : OpenClaim := { program := "ytbhkgnhgecchcaa", sum := "38a95ef02286890dc1fd0525bce1e26f869e3d2bd240fa4a7c5cb50ea5cc5a60", func := "waterwheel/waterwheellaw14.SlideNil", spec := "slideNil", unfollowed := true, recurses := true, apart := false }
def SlideNilSaid : Prop := slideNilRow.holds Try.pinned (OpenSpec.ofChange slideNilSpec)

/-- ITS FALSE NEIGHBOUR: 'it returns false'. Refute it at one input. -/
def slideNilWrong : ChangeSpec := { name := "slideNil", fn := fun _ => fun
  | [d1, d2] => { results := [.lit (.bool false)], args := [d1, d2] }
  | _ => none }
def SlideNilWrongFalsely : Prop := slideNilRow.holds Try.pinned (OpenSpec.ofChange slideNilWrong)

/-- 'waterwheellaw14.SlideShifts': WHATEVER THE INPUT: true; the input reads as it did. -/
def slideShiftsSpec : ChangeSpec := { name := "slideShifts", fn := fun _ => fun
  | [d1, d2, d3, d4, d5] => { results := [.lit (.bool true)], args := [d1, d2, d3, d4, d5] }
  | _ => none }
def slideShiftsRow : OpenClaim := { program := "ytbhkgnhgecchcaa", sum := "38a95ef02286890dc1fd0525bce1e26f869e3d2bd240fa4a7c5cb50ea5cc5a60", func := "waterwheel/waterwheellaw14.SlideShifts", spec := "slideShifts", unfollowed := true, recurses := true, apart := false }
def SlideShiftsSaid : Prop := slideShiftsRow.holds Try.pinned (OpenSpec.ofChange slideShiftsSpec)

/-- ITS FALSE NEIGHBOUR: 'it returns false'. Refute it at one input. -/
def slideShiftsWrong : ChangeSpec := { name := "slideShifts", fn := fun _ => fun
  | [d1, d2, d3, d4, d5] => { results := [.lit (.bool false)], args := [d1, d2, d3, d4, d5] }
  | _ => none }
def SlideShiftsWrongFalsely : Prop := slideShiftsRow.holds Try.pinned (OpenSpec.ofChange slideShiftsWrong)

/-- 'waterwheellaw14.SlideScript': WHATEVER THE INPUT: true; the input reads as it did. -/
def slideScriptSpec : ChangeSpec := { name := "slideScript", fn := fun _ => fun
  | [d1, d2, d3] => { results := [.lit (.bool true)], args := [d1, d2, d3] }
  | _ => none }
def slideScriptRow : OpenClaim := { program := "ytbhkgnhgecchcaa", sum := "38a95ef02286890dc1fd0525bce1e26f869e3d2bd240fa4a7c5cb50ea5cc5a60", func := "waterwheel/waterwheellaw14.SlideScript", spec := "slideScript", inPlace := ["math/bits.Add64", "math/bits.Sub64"], unfollowed := true, recurses := true, apart := false }
def SlideScriptSaid : Prop := slideScriptRow.holds Try.pinned (OpenSpec.ofChange slideScriptSpec)

/-- ITS FALSE NEIGHBOUR: 'it returns false'. Refute it at one input. -/
def slideScriptWrong : ChangeSpec := { name := "slideScript", fn := fun _ => fun
  | [d1, d2, d3] => { results := [.lit (.bool false)], args := [d1, d2, d3] }
  | _ => none }
def SlideScriptWrongFalsely : Prop := slideScriptRow.holds Try.pinned (OpenSpec.ofChange slideScriptWrong)

/-- 'waterwheellaw14.SlideNames': WHATEVER THE INPUT: true; the input reads as it did. -/
def slideNamesSpec : ChangeSpec := { name := "slideNames", fn := fun _ => fun
  | [] => { results := [.lit (.bool true)], args := [] }
  | _ => none }
def slideNamesRow : OpenClaim := { program := "ytbhkgnhgecchcaa", sum := "38a95ef02286890dc1fd0525bce1e26f869e3d2bd240fa4a7c5cb50ea5cc5a60", func := "waterwheel/waterwheellaw14.SlideNames", spec := "slideNames", unfollowed := true, recurses := true, apart := false }
def SlideNamesSaid : Prop := slideNamesRow.holds Try.pinned (OpenSpec.ofChange slideNamesSpec)

/-- ITS FALSE NEIGHBOUR: 'it returns false'. Refute it at one input. -/
def slideNamesWrong : ChangeSpec := { name := "slideNames", fn := fun _ => fun
  | [] => { results := [.lit (.bool false)], args := [] }
  | _ => none }
def SlideNamesWrongFalsely : Prop := slideNamesRow.holds Try.pinned (OpenSpec.ofChange slideNamesWrong)

/-- 'waterwheellaw14.SlideSame': WHATEVER THE INPUT: true; the input reads as it did. -/
def slideSameSpec : ChangeSpec := { name := "slideSame", fn := fun _ => fun
  | [d1, d2, d3, d4] => { results := [.lit (.bool true)], args := [d1, d2, d3, d4] }
  | _ => none }
def slideSameRow : OpenClaim := { program := "ytbhkgnhgecchcaa", sum := "38a95ef02286890dc1fd0525bce1e26f869e3d2bd240fa4a7c5cb50ea5cc5a60", func := "waterwheel/waterwheellaw14.SlideSame", spec := "slideSame", inPlace := ["math/bits.Add64", "math/bits.Sub64"], unfollowed := true, recurses := true, apart := false }
def SlideSameSaid : Prop := slideSameRow.holds Try.pinned (OpenSpec.ofChange slideSameSpec)

/-- ITS FALSE NEIGHBOUR: 'it returns false'. Refute it at one input. -/
def slideSameWrong : ChangeSpec := { name := "slideSame", fn := fun _ => fun
  | [d1, d2, d3, d4] => { results := [.lit (.bool false)], args := [d1, d2, d3, d4] }
  | _ => none }
def SlideSameWrongFalsely : Prop := slideSameRow.holds Try.pinned (OpenSpec.ofChange slideSameWrong)

/-- 'waterwheellaw14.SlideReads': WHATEVER THE INPUT: true; the input reads as it did. -/
def slideReadsSpec : ChangeSpec := { name := "slideReads", fn := fun _ => fun
  | [d] => { results := [.lit (.bool true)], args := [d] }
  | _ => none }
def slideReadsRow : OpenClaim := { program := "ytbhkgnhgecchcaa", sum := "38a95ef02286890dc1fd0525bce1e26f869e3d2bd240fa4a7c5cb50ea5cc5a60", func := "waterwheel/waterwheellaw14.SlideReads", spec := "slideReads", inPlace := ["math/bits.Add64", "math/bits.Sub64"], unfollowed := true, recurses := true, apart := false }
def SlideReadsSaid : Prop := slideReadsRow.holds Try.pinned (OpenSpec.ofChange slideReadsSpec)

/-- ITS FALSE NEIGHBOUR: 'it returns false'. Refute it at one input. -/
def slideReadsWrong : ChangeSpec := { name := "slideReads", fn := fun _ => fun
  | [d] => { results := [.lit (.bool false)], args := [d] }
  | _ => none }
def SlideReadsWrongFalsely : Prop := slideReadsRow.holds Try.pinned (OpenSpec.ofChange slideReadsWrong)

/- THE SECOND FORM. 'bulk': how many values and letters a reading holds, each counted each time it is reached (what is shared counts as often as it is met; a slice's spare places count too). A statement '..UptoSaid' is the law's where the arguments, and the package variables that the reading takes, are together of bulk at most 1048576: NARROWER than '..Said'. Prove '..Said' where nothing that the law and all that it calls make is longer than what came in: it says more and counts as full. Else prove '..UptoSaid'. A law counts once. -/
mutual
def uptoBulk {H : Type} : DataW H → Nat
  | .lit (.string bytes) => bytes.length + 1
  | .lit _ => 1
  | .nil => 1
  | .ptr d => uptoBulk d + 1
  | .slice elems spare => uptoBulkAll elems + uptoBulkAll spare + 1
  | .agg parts => uptoBulkAll parts + 1
  | .iface _ d => uptoBulk d + 1
  | .map entries => uptoBulkEntries entries + 1
  | .held _ => 1
def uptoBulkAll {H : Type} : List (DataW H) → Nat
  | [] => 0
  | d :: r => uptoBulk d + uptoBulkAll r
def uptoBulkEntries {H : Type} : List (Lit × DataW H) → Nat
  | [] => 0
  | x :: r => uptoBulkEntry x + uptoBulkEntries r
def uptoBulkEntry {H : Type} : Lit × DataW H → Nat
  | (.string bytes, d) => bytes.length + uptoBulk d + 1
  | (_, d) => uptoBulk d + 1
 end
def uptoSmall : (H : Type) → List (DataW H) → Bool := fun _ ds => decide (uptoBulkAll ds ≤ 1048576)
def OpenSpec.upto (s : _root_.Go.ChangeSpec) : _root_.Go.OpenSpec := { _root_.Go.OpenSpec.ofChange s with cond := some uptoSmall }

/-- 'waterwheellaw14.SlideNil', WHERE WHAT IT READS IS OF BULK AT MOST 1048576: true; the input reads as it did. -/
def slideNilUptoRow : OpenClaim := { program := "ytbhkgnhgecchcaa", sum := "38a95ef02286890dc1fd0525bce1e26f869e3d2bd240fa4a7c5cb50ea5cc5a60", func := "waterwheel/waterwheellaw14.SlideNil", spec := "slideNil", unfollowed := true, recurses := true, apart := false, narrowed := true }
def SlideNilUptoSaid : Prop := slideNilUptoRow.holds Try.pinned (OpenSpec.upto slideNilSpec)

/-- 'waterwheellaw14.SlideShifts', WHERE WHAT IT READS IS OF BULK AT MOST 1048576: true; the input reads as it did. -/
def slideShiftsUptoRow : OpenClaim := { program := "ytbhkgnhgecchcaa", sum := "38a95ef02286890dc1fd0525bce1e26f869e3d2bd240fa4a7c5cb50ea5cc5a60", func := "waterwheel/waterwheellaw14.SlideShifts", spec := "slideShifts", unfollowed := true, recurses := true, apart := false, narrowed := true }
def SlideShiftsUptoSaid : Prop := slideShiftsUptoRow.holds Try.pinned (OpenSpec.upto slideShiftsSpec)

/-- 'waterwheellaw14.SlideScript', WHERE WHAT IT READS IS OF BULK AT MOST 1048576: true; the input reads as it did. -/
def slideScriptUptoRow : OpenClaim := { program := "ytbhkgnhgecchcaa", sum := "38a95ef02286890dc1fd0525bce1e26f869e3d2bd240fa4a7c5cb50ea5cc5a60", func := "waterwheel/waterwheellaw14.SlideScript", spec := "slideScript", inPlace := ["math/bits.Add64", "math/bits.Sub64"], unfollowed := true, recurses := true, apart := false, narrowed := true }
def SlideScriptUptoSaid : Prop := slideScriptUptoRow.holds Try.pinned (OpenSpec.upto slideScriptSpec)

/-- 'waterwheellaw14.SlideNames', WHERE WHAT IT READS IS OF BULK AT MOST 1048576: true; the input reads as it did. -/
def slideNamesUptoRow : OpenClaim := { program := "ytbhkgnhgecchcaa", sum := "38a95ef02286890dc1fd0525bce1e26f869e3d2bd240fa4a7c5cb50ea5cc5a60", func := "waterwheel/waterwheellaw14.SlideNames", spec := "slideNames", unfollowed := true, recurses := true, apart := false, narrowed := true }
def SlideNamesUptoSaid : Prop := slideNamesUptoRow.holds Try.pinned (OpenSpec.upto slideNamesSpec)

/-- 'waterwheellaw14.SlideSame', WHERE WHAT IT READS IS OF BULK AT MOST 1048576: true; the input reads as it did. -/
def slideSameUptoRow : OpenClaim := { program := "ytbhkgnhgecchcaa", sum := "38a95ef02286890dc1fd0525bce1e26f869e3d2bd240fa4a7c5cb50ea5cc5a60", func := "waterwheel/waterwheellaw14.SlideSame", spec := "slideSame", inPlace := ["math/bits.Add64", "math/bits.Sub64"], unfollowed := true, recurses := true, apart := false, narrowed := true }
def SlideSameUptoSaid : Prop := slideSameUptoRow.holds Try.pinned (OpenSpec.upto slideSameSpec)

/-- 'waterwheellaw14.SlideReads', WHERE WHAT IT READS IS OF BULK AT MOST 1048576: true; the input reads as it did. -/
def slideReadsUptoRow : OpenClaim := { program := "ytbhkgnhgecchcaa", sum := "38a95ef02286890dc1fd0525bce1e26f869e3d2bd240fa4a7c5cb50ea5cc5a60", func := "waterwheel/waterwheellaw14.SlideReads", spec := "slideReads", inPlace := ["math/bits.Add64", "math/bits.Sub64"], unfollowed := true, recurses := true, apart := false, narrowed := true }
def SlideReadsUptoSaid : Prop := slideReadsUptoRow.holds Try.pinned (OpenSpec.upto slideReadsSpec)

end Rows
end Go.Proofs.Ytbhkgnhgecchcaa
