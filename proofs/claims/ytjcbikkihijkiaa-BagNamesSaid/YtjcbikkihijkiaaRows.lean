/-
  No cell of these rows narrows 'for every input' (looked for: loops, veiled, ifaces, maps, wideKeys, modest, calm, conditions, laid).
  DERIVED. THE GIVEN ROWS OF THIS SEAT. 4 by the template 'for every input the law returns true; each argument reads behind the call as it read before'; 0 by the template 'total and deterministic' (their statements: YtjcbikkihijkiaaTotals.lean).
  GIVEN WITH THE SEED: the statements are not yours to turn. If you find one false, say at which input.
  Laid BY PROGRAM, IN A SANDBOX (cutbox-rows.mjs): the forced cells as the released guide's own fill.sh prints them over the translation 9088b1c115fd2ccd… (all of the seat's roots in one cut). By AI agents, Wed Nov 11 2026. No macro, syntax, notation, axiom, sorry.
-/
import Derived.Test.YtjcbikkihijkiaaChecked
import GoSem.Claim
import GoSem.ClaimJoined
import GoSem.ClaimMapViews
import Derived.JoinedTies
import Derived.KernelRfl
namespace Go.Proofs.Ytjcbikkihijkiaa
/- THE CELL 'sum', in the pinned program and in every row, IS THE sha256 OF THE DUMP (.gsa) THAT YtjcbikkihijkiaaProg.lean LOADS. Nothing in Lean hashes anything: it is a label: what it is worth is what the hold of that sum in a sandbox is worth. -/
noncomputable def Try.pinned : Pinned := { name := "ytjcbikkihijkiaa", sum := "9088b1c115fd2ccd6b1916dc6d7d52ffde739e3b494555e66d9eb24d29cc5828", checked := Try.checked }
namespace Rows
def none {H : Type} : Left H := { results := [], args := [] }

/-- 'waterwheellaw13.BagRanks': WHATEVER THE INPUT: true; the input reads as it did. -/
def bagRanksSpec : ChangeSpec := { name := "bagRanks", fn := fun _ => fun
  | [d1, d2, d3] => { results := [.lit (.bool true)], args := [d1, d2, d3] }
  | _ => none }
def bagRanksRow : OpenClaim := { program := "ytjcbikkihijkiaa", sum := "9088b1c115fd2ccd6b1916dc6d7d52ffde739e3b494555e66d9eb24d29cc5828", func := "waterwheel/waterwheellaw13.BagRanks", spec := "bagRanks", unfollowed := true, recurses := true, apart := false }
def BagRanksSaid : Prop := bagRanksRow.holds Try.pinned (OpenSpec.ofChange bagRanksSpec)

/-- ITS FALSE NEIGHBOUR: 'it returns false'. Refute it at one input. -/
def bagRanksWrong : ChangeSpec := { name := "bagRanks", fn := fun _ => fun
  | [d1, d2, d3] => { results := [.lit (.bool false)], args := [d1, d2, d3] }
  | _ => none }
def BagRanksWrongFalsely : Prop := bagRanksRow.holds Try.pinned (OpenSpec.ofChange bagRanksWrong)

/-- 'waterwheellaw13.BagScript': WHATEVER THE INPUT: true; the input reads as it did. -/
def bagScriptSpec : ChangeSpec := { name := "bagScript", fn := fun _ => fun
  | [d] => { results := [.lit (.bool true)], args := [d] }
  | _ => none }
def bagScriptRow : OpenClaim := { program := "ytjcbikkihijkiaa", sum := "9088b1c115fd2ccd6b1916dc6d7d52ffde739e3b494555e66d9eb24d29cc5828", func := "waterwheel/waterwheellaw13.BagScript", spec := "bagScript", unfollowed := true, recurses := true, apart := false }
def BagScriptSaid : Prop := bagScriptRow.holds Try.pinned (OpenSpec.ofChange bagScriptSpec)

/-- ITS FALSE NEIGHBOUR: 'it returns false'. Refute it at one input. -/
def bagScriptWrong : ChangeSpec := { name := "bagScript", fn := fun _ => fun
  | [d] => { results := [.lit (.bool false)], args := [d] }
  | _ => none }
def BagScriptWrongFalsely : Prop := bagScriptRow.holds Try.pinned (OpenSpec.ofChange bagScriptWrong)

/-- 'waterwheellaw13.BagNil': WHATEVER THE INPUT: true; the input reads as it did. -/
def bagNilSpec : ChangeSpec := { name := "bagNil", fn := fun _ => fun
  | [d] => { results := [.lit (.bool true)], args := [d] }
  | _ => none }
def bagNilRow : OpenClaim := { program := "ytjcbikkihijkiaa", sum := "9088b1c115fd2ccd6b1916dc6d7d52ffde739e3b494555e66d9eb24d29cc5828", func := "waterwheel/waterwheellaw13.BagNil", spec := "bagNil", unfollowed := true, recurses := true, apart := false }
def BagNilSaid : Prop := bagNilRow.holds Try.pinned (OpenSpec.ofChange bagNilSpec)

/-- ITS FALSE NEIGHBOUR: 'it returns false'. Refute it at one input. -/
def bagNilWrong : ChangeSpec := { name := "bagNil", fn := fun _ => fun
  | [d] => { results := [.lit (.bool false)], args := [d] }
  | _ => none }
def BagNilWrongFalsely : Prop := bagNilRow.holds Try.pinned (OpenSpec.ofChange bagNilWrong)

/-- 'waterwheellaw13.BagNames': WHATEVER THE INPUT: true; the input reads as it did. -/
def bagNamesSpec : ChangeSpec := { name := "bagNames", fn := fun _ => fun
  | [] => { results := [.lit (.bool true)], args := [] }
  | _ => none }
def bagNamesRow : OpenClaim := { program := "ytjcbikkihijkiaa", sum := "9088b1c115fd2ccd6b1916dc6d7d52ffde739e3b494555e66d9eb24d29cc5828", func := "waterwheel/waterwheellaw13.BagNames", spec := "bagNames", unfollowed := true, recurses := true, apart := false }
def BagNamesSaid : Prop := bagNamesRow.holds Try.pinned (OpenSpec.ofChange bagNamesSpec)

/-- ITS FALSE NEIGHBOUR: 'it returns false'. Refute it at one input. -/
def bagNamesWrong : ChangeSpec := { name := "bagNames", fn := fun _ => fun
  | [] => { results := [.lit (.bool false)], args := [] }
  | _ => none }
def BagNamesWrongFalsely : Prop := bagNamesRow.holds Try.pinned (OpenSpec.ofChange bagNamesWrong)

/- THE SECOND FORM. 'bulk': how many values and letters a reading holds, each counted each time it is reached (what is shared counts as often as it is met; a slice's spare places count too). A statement '..UptoSaid' is the law's where the arguments, and the package variables that the reading takes, are together of bulk at most 1048576: NARROWER than '..Said'. Prove '..Said' where nothing that the law and all that it calls make is longer than what came in: it says more and counts as full. Else prove '..UptoSaid'. A law counts once. -/
mutual
def uptoBulk {H : Type} : DataW H → Nat
  | .lit (.string bytes) => bytes.length + 1
  | .lit _ => 1
  | .nil => 1
  | .ptr d => uptoBulk d + 1
  | .slice elems spare => uptoBulkAll elems + uptoBulkAll spare + 1
  | .agg parts => uptoBulkAll parts + 1
  | .iface _ d => uptoBulk d + 1
  | .map entries => uptoBulkEntries entries + 1
  | .held _ => 1
def uptoBulkAll {H : Type} : List (DataW H) → Nat
  | [] => 0
  | d :: r => uptoBulk d + uptoBulkAll r
def uptoBulkEntries {H : Type} : List (Lit × DataW H) → Nat
  | [] => 0
  | x :: r => uptoBulkEntry x + uptoBulkEntries r
def uptoBulkEntry {H : Type} : Lit × DataW H → Nat
  | (.string bytes, d) => bytes.length + uptoBulk d + 1
  | (_, d) => uptoBulk d + 1
 end
def uptoSmall : (H : Type) → List (DataW H) → Bool := fun _ ds => decide (uptoBulkAll ds ≤ 1048576)
def OpenSpec.upto (s : _root_.Go.ChangeSpec) : _root_.Go.OpenSpec := { _root_.Go.OpenSpec.ofChange s with cond := some uptoSmall }

/-- 'waterwheellaw13.BagRanks', WHERE WHAT IT READS IS OF BULK AT MOST 1048576: true; the input reads as it did. -/
def bagRanksUptoRow : OpenClaim := { program := "ytjcbikkihijkiaa", sum := "9088b1c115fd2ccd6b1916dc6d7d52ffde739e3b494555e66d9eb24d29cc5828", func := "waterwheel/waterwheellaw13.BagRanks", spec := "bagRanks", unfollowed := true, recurses := true, apart := false, narrowed := true }
def BagRanksUptoSaid : Prop := bagRanksUptoRow.holds Try.pinned (OpenSpec.upto bagRanksSpec)

/-- 'waterwheellaw13.BagScript', WHERE WHAT IT READS IS OF BULK AT MOST 1048576: true; the input reads as it did. -/
def bagScriptUptoRow : OpenClaim := { program := "ytjcbikkihijkiaa", sum := "9088b1c115fd2ccd6b1916dc6d7d52ffde739e3b494555e66d9eb24d29cc5828", func := "waterwheel/waterwheellaw13.BagScript", spec := "bagScript", unfollowed := true, recurses := true, apart := false, narrowed := true }
def BagScriptUptoSaid : Prop := bagScriptUptoRow.holds Try.pinned (OpenSpec.upto bagScriptSpec)

/-- 'waterwheellaw13.BagNil', WHERE WHAT IT READS IS OF BULK AT MOST 1048576: true; the input reads as it did. -/
def bagNilUptoRow : OpenClaim := { program := "ytjcbikkihijkiaa", sum := "9088b1c115fd2ccd6b1916dc6d7d52ffde739e3b494555e66d9eb24d29cc5828", func := "waterwheel/waterwheellaw13.BagNil", spec := "bagNil", unfollowed := true, recurses := true, apart := false, narrowed := true }
def BagNilUptoSaid : Prop := bagNilUptoRow.holds Try.pinned (OpenSpec.upto bagNilSpec)

/-- 'waterwheellaw13.BagNames', WHERE WHAT IT READS IS OF BULK AT MOST 1048576: true; the input reads as it did. -/
def bagNamesUptoRow : OpenClaim := { program := "ytjcbikkihijkiaa", sum := "9088b1c115fd2ccd6b1916dc6d7d52ffde739e3b494555e66d9eb24d29cc5828", func := "waterwheel/waterwheellaw13.BagNames", spec := "bagNames", unfollowed := true, recurses := true, apart := false, narrowed := true }
def BagNamesUptoSaid : Prop := bagNamesUptoRow.holds Try.pinned (OpenSpec.upto bagNamesSpec)

end Rows
end Go.Proofs.Ytjcbikkihijkiaa
