/-
  No cell of these rows narrows 'for every input' (looked for: loops, veiled, ifaces, maps, wideKeys, modest, calm, conditions, laid).
  DERIVED. THE GIVEN ROWS OF THIS SEAT. 3 by the template 'for every input the law returns true; each argument reads behind the call as it read before'; 0 by the template 'total and deterministic' (their statements: YtangcgfchalnaaaTotals.lean).
  GIVEN WITH THE SEED: the statements are not yours to turn. If you find one false, say at which input.
  Laid BY PROGRAM, IN A SANDBOX (cutbox-rows.mjs): the forced cells as the released guide's own fill.sh prints them over the translation fc250169d500b509… (all of the seat's roots in one cut). By AI agents, Wed Nov 11 2026. No macro, syntax, notation, axiom, sorry.
-/
import Derived.Test.YtangcgfchalnaaaChecked
import GoSem.Claim
import GoSem.ClaimJoined
import GoSem.ClaimMapViews
import Derived.JoinedTies
import Derived.KernelRfl
namespace Go.Proofs.Ytangcgfchalnaaa
/- THE CELL 'sum', in the pinned program and in every row, IS THE sha256 OF THE DUMP (.gsa) THAT YtangcgfchalnaaaProg.lean LOADS. Nothing in Lean hashes anything: it is a label: what it is worth is what the hold of that sum in a sandbox is worth. -/
noncomputable def Try.pinned : Pinned := { name := "ytangcgfchalnaaa", sum := "fc250169d500b50968b2c50011ace495e0887a30327e6fc1a10de0c30d39227d", checked := Try.checked }
namespace Rows
def none {H : Type} : Left H := { results := [], args := [] }

/-- 'waterwheellaw20.MarkWider': WHATEVER THE INPUT: true; the input reads as it did. -/
def markWiderSpec : ChangeSpec := { name := "markWider", fn := fun _ => fun
  | [d1, d2, d3] => { results := [.lit (.bool true)], args := [d1, d2, d3] }
  | _ => none }
def markWiderRow : OpenClaim := { program := "ytangcgfchalnaaa", sum := "fc250169d500b50968b2c50011ace495e0887a30327e6fc1a10de0c30d39227d", func := "waterwheel/waterwheellaw20.MarkWider", spec := "markWider", inPlace := ["slices.overlaps[*waterwheel/buffer.block]"], unfollowed := true, recurses := true, apart := false }
def MarkWiderSaid : Prop := markWiderRow.holds Try.pinned (OpenSpec.ofChange markWiderSpec)

/-- ITS FALSE NEIGHBOUR: 'it returns false'. Refute it at one input. -/
def markWiderWrong : ChangeSpec := { name := "markWider", fn := fun _ => fun
  | [d1, d2, d3] => { results := [.lit (.bool false)], args := [d1, d2, d3] }
  | _ => none }
def MarkWiderWrongFalsely : Prop := markWiderRow.holds Try.pinned (OpenSpec.ofChange markWiderWrong)

/-- 'waterwheellaw20.MarkPasses': WHATEVER THE INPUT: true; the input reads as it did. -/
def markPassesSpec : ChangeSpec := { name := "markPasses", fn := fun _ => fun
  | [d1, d2, d3] => { results := [.lit (.bool true)], args := [d1, d2, d3] }
  | _ => none }
def markPassesRow : OpenClaim := { program := "ytangcgfchalnaaa", sum := "fc250169d500b50968b2c50011ace495e0887a30327e6fc1a10de0c30d39227d", func := "waterwheel/waterwheellaw20.MarkPasses", spec := "markPasses", inPlace := ["slices.overlaps[*waterwheel/buffer.block]"], unfollowed := true, recurses := true, apart := false }
def MarkPassesSaid : Prop := markPassesRow.holds Try.pinned (OpenSpec.ofChange markPassesSpec)

/-- ITS FALSE NEIGHBOUR: 'it returns false'. Refute it at one input. -/
def markPassesWrong : ChangeSpec := { name := "markPasses", fn := fun _ => fun
  | [d1, d2, d3] => { results := [.lit (.bool false)], args := [d1, d2, d3] }
  | _ => none }
def MarkPassesWrongFalsely : Prop := markPassesRow.holds Try.pinned (OpenSpec.ofChange markPassesWrong)

/-- 'waterwheellaw20.MarkNil': WHATEVER THE INPUT: true; the input reads as it did. -/
def markNilSpec : ChangeSpec := { name := "markNil", fn := fun _ => fun
  | [d] => { results := [.lit (.bool true)], args := [d] }
  | _ => none }
def markNilRow : OpenClaim := { program := "ytangcgfchalnaaa", sum := "fc250169d500b50968b2c50011ace495e0887a30327e6fc1a10de0c30d39227d", func := "waterwheel/waterwheellaw20.MarkNil", spec := "markNil", inPlace := ["slices.overlaps[*waterwheel/buffer.block]"], unfollowed := true, recurses := true, apart := false }
def MarkNilSaid : Prop := markNilRow.holds Try.pinned (OpenSpec.ofChange markNilSpec)

/-- ITS FALSE NEIGHBOUR: 'it returns false'. Refute it at one input. -/
def markNilWrong : ChangeSpec := { name := "markNil", fn := fun _ => fun
  | [d] => { results := [.lit (.bool false)], args := [d] }
  | _ => none }
def MarkNilWrongFalsely : Prop := markNilRow.holds Try.pinned (OpenSpec.ofChange markNilWrong)

/- THE SECOND FORM. 'bulk': how many values and letters a reading holds, each counted each time it is reached (what is shared counts as often as it is met; a slice's spare places count too). A statement '..UptoSaid' is the law's where the arguments, and the package variables that the reading takes, are together of bulk at most 1048576: NARROWER than '..Said'. Prove '..Said' where nothing that the law and all that it calls make is longer than what came in: it says more and counts as full. Else prove '..UptoSaid'. A law counts once. -/
mutual
def uptoBulk {H : Type} : DataW H → Nat
  | .lit (.string bytes) => bytes.length + 1
  | .lit _ => 1
  | .nil => 1
  | .ptr d => uptoBulk d + 1
  | .slice elems spare => uptoBulkAll elems + uptoBulkAll spare + 1
  | .agg parts => uptoBulkAll parts + 1
  | .iface _ d => uptoBulk d + 1
  | .map entries => uptoBulkEntries entries + 1
  | .held _ => 1
def uptoBulkAll {H : Type} : List (DataW H) → Nat
  | [] => 0
  | d :: r => uptoBulk d + uptoBulkAll r
def uptoBulkEntries {H : Type} : List (Lit × DataW H) → Nat
  | [] => 0
  | x :: r => uptoBulkEntry x + uptoBulkEntries r
def uptoBulkEntry {H : Type} : Lit × DataW H → Nat
  | (.string bytes, d) => bytes.length + uptoBulk d + 1
  | (_, d) => uptoBulk d + 1
 end
def uptoSmall : (H : Type) → List (DataW H) → Bool := fun _ ds => decide (uptoBulkAll ds ≤ 1048576)
def OpenSpec.upto (s : _root_.Go.ChangeSpec) : _root_.Go.OpenSpec := { _root_.Go.OpenSpec.ofChange s with cond := some uptoSmall }

/-- 'waterwheellaw20.MarkWider', WHERE WHAT IT READS IS OF BULK AT MOST 1048576: true; the input reads as it did. -/
def markWiderUptoRow : OpenClaim := { program := "ytangcgfchalnaaa", sum := "fc250169d500b50968b2c50011ace495e0887a30327e6fc1a10de0c30d39227d", func := "waterwheel/waterwheellaw20.MarkWider", spec := "markWider", inPlace := ["slices.overlaps[*waterwheel/buffer.block]"], unfollowed := true, recurses := true, apart := false, narrowed := true }
def MarkWiderUptoSaid : Prop := markWiderUptoRow.holds Try.pinned (OpenSpec.upto markWiderSpec)

/-- 'waterwheellaw20.MarkPasses', WHERE WHAT IT READS IS OF BULK AT MOST 1048576: true; the input reads as it did. -/
def markPassesUptoRow : OpenClaim := { program := "ytangcgfchalnaaa", sum := "fc250169d500b50968b2c50011ace495e0887a30327e6fc1a10de0c30d39227d", func := "waterwheel/waterwheellaw20.MarkPasses", spec := "markPasses", inPlace := ["slices.overlaps[*waterwheel/buffer.block]"], unfollowed := true, recurses := true, apart := false, narrowed := true }
def MarkPassesUptoSaid : Prop := markPassesUptoRow.holds Try.pinned (OpenSpec.upto markPassesSpec)

/-- 'waterwheellaw20.MarkNil', WHERE WHAT IT READS IS OF BULK AT MOST 1048576: true; the input reads as it did. -/
def markNilUptoRow : OpenClaim := { program := "ytangcgfchalnaaa", sum := "fc250169d500b50968b2c50011ace495e0887a30327e6fc1a10de0c30d39227d", func := "waterwheel/waterwheellaw20.MarkNil", spec := "markNil", inPlace := ["slices.overlaps[*waterwheel/buffer.block]"], unfollowed := true, recurses := true, apart := false, narrowed := true }
def MarkNilUptoSaid : Prop := markNilUptoRow.holds Try.pinned (OpenSpec.upto markNilSpec)

end Rows
end Go.Proofs.Ytangcgfchalnaaa
