/- Arguments that are values, rows of values: opened. -/
import Derived.Test.YtjcbikkihijkiaaLaw
import Derived.Deep.SlicePairs
import Derived.ChangeSlices
namespace Go.Proofs.Ytjcbikkihijkiaa
open Go.ChangeShapes Go.WideShapes Go.ChangeAt Go.RowKit Go.Joins Go.Deep
theorem vCells : Try.prog.cellsOf 29 = 2 := by kernel_rfl
theorem vCells64 : Try.prog.cellsOf 2 = 1 := by kernel_rfl
theorem vCellsB : Try.prog.cellsOf 4 = 1 := by kernel_rfl
theorem vCell_lt {w : World} {a : Addr} {v : Value} (h : w.cell? a = some v) : a.block < w.heap.size := by
  rcases Nat.lt_or_ge a.block w.heap.size with h1 | h1
  · exact h1
  · simp [World.cell?, Array.getElem?_eq_none h1] at h
theorem vAdd_block (a : Addr) (n : Nat) : (a.add n).block = a.block := by unfold Addr.add; split <;> rfl
abbrev Vl := Int × Bool
def VIn (n : Int) : Prop := -9223372036854775808 ≤ n ∧ n ≤ 9223372036854775807
theorem vWf {n : Int} (h : (Lit.int .i64 n).wf = true) : VIn n := by
  simp [Lit.wf, IntKind.min, IntKind.max, IntKind.signed, IntKind.bits] at h
  exact h
/-- Values at a. -/
def ValAt (w : World) (a : Addr) (l : List Vl) : Prop := ∀ i (h : i < l.length), w.cell? (a.add (i * 2)) = some (.int .i64 l[i].1) ∧ w.cell? { block := (a.add (i * 2)).block, off := (a.add (i * 2)).off + 1 } = some (.bool l[i].2)
def RVal (w : World) (A : Option Addr) (l : List Vl) : Prop := 0 < l.length → ∃ a, A = some a ∧ a.block < w.heap.size ∧ ValAt w a l
theorem RVal.below {w w' : World} {A : Option Addr} {l : List Vl} (h : RVal w A l) (hb : Below w.heap.size w w') : RVal w' A l := fun h0 => by
  obtain ⟨a, h1, h2, h3⟩ := h h0
  refine ⟨a, h1, Nat.lt_of_lt_of_le h2 hb.size, fun i hi => ?_⟩
  obtain ⟨c0, c1⟩ := h3 i hi
  rw [hb.cell (by rw [vAdd_block]; exact h2), hb.cell (by show (a.add (i * 2)).block < _; rw [vAdd_block]; exact h2)]
  exact ⟨c0, c1⟩
theorem vAdd_succ (a : Addr) (n : Nat) : a.add (n + 1) = { block := (a.add n).block, off := (a.add n).off + 1 } := by
  unfold Addr.add
  by_cases h : n = 0
  · subst h; simp
  · simp [h]; omega
section
variable {H : Type} {enc : TypeId × Value → H} {w : World} {base : Nat} {spare : Nat → Bool} {held : Bool}
theorem openV {r : Reach} {b0 : Nat} {v : Value} {d : DataW H} {p : List MemPlace} (hv : Value.okWide Try.prog w r b0 29 v) (h : DataW.Trod enc Try.prog w base spare held 29 v d p) :
    ∃ (n : Int) (o : Bool), v = .agg #[.int .i64 n, .bool o] ∧ p = [] ∧ VIn n := by
  obtain ⟨c0, c1, y0, y1, m, rfl, rfl, rfl, hy0, hy1⟩ := open_agg2 Try.underlying29 (by kernel_rfl) vCells hv h
  obtain ⟨a, e0, rfl, wa⟩ := DataW.trod_int Try.underlying2 hy0
  obtain ⟨b, e1, rfl⟩ := DataW.trod_bool Try.underlying4 hy1
  simp at e0 e1
  subst e0 e1
  exact ⟨a, b, rfl, rfl, vWf wa⟩
/-- An argument that is a row of values. -/
theorem openVs {r : Reach} {b0 : Nat} {v : Value} {d : DataW H} {p : List MemPlace} (hv : Value.okWide Try.prog w r b0 22 v) (h : DataW.Trod enc Try.prog w base spare held 22 v d p) :
    ∃ (A : Option Addr) (l : List Vl) (cap : Nat), v = .slice A l.length cap ∧ l.length ≤ maxLen ∧ RVal w A l ∧ (∀ e ∈ l, VIn e.1) := by
  obtain ⟨A, n0, c0, rfl⟩ := okWide_slice Try.underlying22 hv
  obtain ⟨fuel, hf⟩ := h
  rcases open_slice_pairs Try.underlying22 Try.underlying29 vCells rfl rfl vCells64 vCellsB hf with ⟨hc, _⟩ | ⟨a, len, cap, m, n, V0, V1, D0, D1, P0, P1, hc, _, hl, hm, hmm, _, hx⟩
  · exact ⟨none, [], 0, by simpa [Value.cells] using hc, by simp, fun h => absurd h (by simp), by simp⟩
  · have hlm : len ≤ m := by rw [hmm]; split <;> omega
    have hx' : ∀ i, ∃ e : Vl, i < m → V0 i = .int .i64 e.1 ∧ V1 i = .bool e.2 ∧ VIn e.1 := fun i => by
      by_cases hi : i < m
      · obtain ⟨_, _, h0, h1⟩ := hx i hi
        obtain ⟨x, e0, _, wx⟩ := DataW.trod_int Try.underlying2 h0
        obtain ⟨y, e1, _⟩ := DataW.trod_bool Try.underlying4 h1
        simp at e0 e1
        exact ⟨(x, y), fun _ => ⟨e0, e1, vWf wx⟩⟩
      · exact ⟨(0, false), fun h => absurd h hi⟩
    have hfF : ∀ i, i < m → V0 i = .int .i64 (Classical.choose (hx' i)).1 ∧ V1 i = .bool (Classical.choose (hx' i)).2 ∧ VIn (Classical.choose (hx' i)).1 := fun i hi => Classical.choose_spec (hx' i) hi
    refine ⟨some a, (List.range len).map fun i => Classical.choose (hx' i), cap, ?_, by simp; omega, fun h0 => ⟨a, rfl, ?_, fun i hi => ?_⟩, fun e he => ?_⟩
    · simpa [Value.cells] using hc
    · have h0' : 0 < len := by simpa using h0
      have := vCell_lt (hx 0 (by omega)).1
      rwa [vAdd_block] at this
    · have hi' : i < len := by simpa using hi
      obtain ⟨c1, c2, _, _⟩ := hx i (by omega)
      obtain ⟨g1, g2, _⟩ := hfF i (by omega)
      rw [g1] at c1
      rw [g2, vAdd_succ] at c2
      simp only [List.getElem_map, List.getElem_range]
      exact ⟨c1, c2⟩
    · obtain ⟨i, hi, rfl⟩ := List.mem_map.1 he
      exact (hfF i (by have := List.mem_range.1 hi; omega)).2.2
end
end Go.Proofs.Ytjcbikkihijkiaa
