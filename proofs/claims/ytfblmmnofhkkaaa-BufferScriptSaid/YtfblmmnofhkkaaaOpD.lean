/- An argument that is a slice of a buffer's acts: opened. -/
import Derived.Test.YtfblmmnofhkkaaaWir
import Derived.Test.YtfblmmnofhkkaaaLaw
import Derived.Deep.Slices
import Derived.ChangeSlices
namespace Go.Proofs.Ytfblmmnofhkkaaa
open Go.ChangeShapes Go.WideShapes Go.ChangeAt Go.RowKit Go.Joins Go.Deep
/-- An act: its kind; the time; the number. -/
abbrev ActV := Int × Int × Int
def AIn (n : Int) : Prop := -9223372036854775808 ≤ n ∧ n ≤ 9223372036854775807
theorem actAdd_block (a : Addr) (n : Nat) : (a.add n).block = a.block := by unfold Addr.add; split <;> rfl
theorem actAdd_add (a : Addr) (i j : Nat) : (a.add i).add j = a.add (i + j) := add_of_add a i j
theorem actCell_lt {w : World} {a : Addr} {v : Value} (h : w.cell? a = some v) : a.block < w.heap.size := by
  rcases Nat.lt_or_ge a.block w.heap.size with h1 | h1
  · exact h1
  · simp [World.cell?, Array.getElem?_eq_none h1] at h
/-- The acts at a. -/
def ActAt (w : World) (a : Addr) (l : List ActV) : Prop :=
  ∀ i (h : i < l.length), w.cell? (a.add (i * 3)) = some (.int .i64 l[i].1) ∧ w.cell? (a.add (i * 3 + 1)) = some (.int .i64 l[i].2.1) ∧ w.cell? (a.add (i * 3 + 2)) = some (.int .i64 l[i].2.2)
def RAct (w : World) (A : Option Addr) (l : List ActV) : Prop := 0 < l.length → ∃ a, A = some a ∧ a.block < w.heap.size ∧ ActAt w a l
theorem RAct.below {w w' : World} {A : Option Addr} {l : List ActV} (h : RAct w A l) (hb : Below w.heap.size w w') : RAct w' A l := fun h0 => by
  obtain ⟨a, h1, h2, h3⟩ := h h0
  refine ⟨a, h1, Nat.lt_of_lt_of_le h2 hb.size, fun i hi => ?_⟩
  obtain ⟨c0, c1, c2⟩ := h3 i hi
  rw [hb.cell (by rw [actAdd_block]; exact h2), hb.cell (by rw [actAdd_block]; exact h2), hb.cell (by rw [actAdd_block]; exact h2)]
  exact ⟨c0, c1, c2⟩
/-- An act's cells in the walk's spelling. -/
theorem ActAt.at_ {w : World} {a : Addr} {l : List ActV} (h : ActAt w a l) (i : Nat) (hi : i < l.length) : w.cell? (a.add (i * 3)) = some (.int .i64 l[i].1) ∧
    w.cell? { block := (a.add (i * 3)).block, off := (a.add (i * 3)).off + 1 } = some (.int .i64 l[i].2.1) ∧ w.cell? { block := (a.add (i * 3)).block, off := (a.add (i * 3)).off + 2 } = some (.int .i64 l[i].2.2) := by
  obtain ⟨c0, c1, c2⟩ := h i hi
  refine ⟨c0, ?_, ?_⟩
  · rw [← actAdd_add] at c1
    rw [← c1]; unfold Addr.add; split <;> rfl
  · rw [← actAdd_add] at c2
    rw [← c2]; unfold Addr.add; split <;> rfl
theorem undAct : ∃ f0 f1 f2 : Field, Try.prog.underlying 37 = some (.struct #[f0, f1, f2]) ∧ f0.offset = 0 ∧ f1.offset = 1 ∧ f2.offset = 2 ∧ f0.type = 3 ∧ f1.type = 2 ∧ f2.type = 2 := ⟨_, _, _, Try.underlying37, rfl, rfl, rfl, rfl, rfl, rfl⟩
theorem cellsAct : Try.prog.cellsOf 37 = 3 := by kernel_rfl
theorem actWf {n : Int} (h : (Lit.int .i64 n).wf = true) : AIn n := by
  simp [Lit.wf, IntKind.min, IntKind.max, IntKind.signed, IntKind.bits] at h
  exact h
theorem actC64 : Try.prog.cellsOf 2 = 1 := by kernel_rfl
theorem actCB : Try.prog.cellsOf 3 = 1 := by kernel_rfl
section
variable {H : Type} {enc : TypeId × Value → H} {w : World} {base : Nat} {spare : Nat → Bool} {held : Bool}
set_option maxRecDepth 100000 in
theorem open_acts {r : Reach} {b0 : Nat} {v : Value} {d : DataW H} {p : List MemPlace} (hv : Value.okWide Try.prog w r b0 35 v) (h : DataW.Trod enc Try.prog w base spare held 35 v d p) :
    ∃ (A : Option Addr) (l : List ActV) (cap : Nat), v = .slice A l.length cap ∧ l.length ≤ cap ∧ cap ≤ maxLen ∧ RAct w A l ∧ ∀ a ∈ l, AIn a.1 ∧ AIn a.2.1 ∧ AIn a.2.2 := by
  obtain ⟨A, n0, c0, rfl⟩ := okWide_slice Try.underlying35 hv
  obtain ⟨fuel, hf⟩ := h
  obtain ⟨f0, f1, f2, hu, o0, o1, o2, t0, t1, t2⟩ := undAct
  rcases open_slice Try.underlying35 hf with ⟨hc, _⟩ | ⟨a, len, cap, m, n, D, Pl, hc, hb, hl, hm, hmm, hx, hi⟩
  · exact ⟨none, [], 0, by simpa [Value.cells] using hc, by simp, by simp [maxLen], fun h => absurd h (by simp), by simp⟩
  · have hlm : len ≤ m := by rw [hmm]; split <;> omega
    have each : ∀ i, ∃ e : ActV, i < len → w.cell? (a.add (i * 3)) = some (.int .i64 e.1) ∧ w.cell? (a.add (i * 3 + 1)) = some (.int .i64 e.2.1) ∧ w.cell? (a.add (i * 3 + 2)) = some (.int .i64 e.2.2) ∧ AIn e.1 ∧ AIn e.2.1 ∧ AIn e.2.2 := fun i => by
      by_cases hi0 : i < len
      · obtain ⟨cs', h1, h2⟩ := hi i (by omega)
        rw [cellsAct] at h1
        obtain ⟨_, hlen, hcell⟩ := World.cells?_some h1
        obtain ⟨xs, k, hk, hxy, _, hxl, hg⟩ := DataW.trod_struct hu h2
        match xs, hxl, cs', hlen with
        | [y0, y1, y2], _, [v0, v1, v2], _ =>
          have g0 := hg 0 f0 rfl
          have g1 := hg 1 f1 rfl
          have g2 := hg 2 f2 rfl
          simp [o0, o1, o2, t0, t1, t2, actC64, actCB] at g0 g1 g2
          have e0 := hcell 0 (by omega)
          have e1 := hcell 1 (by omega)
          have e2 := hcell 2 (by omega)
          rw [actAdd_add] at e0 e1 e2
          simp at e0 e1 e2
          obtain ⟨x0, q0, _, w0⟩ := DataW.trod_int Try.underlying3 g0
          obtain ⟨x1, q1, _, w1⟩ := DataW.trod_int Try.underlying2 g1
          obtain ⟨x2, q2, _, w2⟩ := DataW.trod_int Try.underlying2 g2
          simp at q0 q1 q2
          subst q0 q1 q2
          exact ⟨(x0, x1, x2), fun _ => ⟨e0, e1, e2, actWf w0, actWf w1, actWf w2⟩⟩
      · exact ⟨(0, 0, 0), fun h => absurd h hi0⟩
    refine ⟨some a, (List.range len).map fun i => Classical.choose (each i), cap, ?_, by simpa using hl, hm, fun h0 => ⟨a, rfl, ?_, fun i hi => ?_⟩, fun e he => ?_⟩
    · simpa [Value.cells] using hc
    · have := (Classical.choose_spec (each 0) (by simpa using h0)).1
      have := actCell_lt this; rwa [actAdd_block] at this
    · have hi' : i < len := by simpa using hi
      obtain ⟨c1, c2, c3, _⟩ := Classical.choose_spec (each i) hi'
      simp only [List.getElem_map, List.getElem_range]
      exact ⟨c1, c2, c3⟩
    · obtain ⟨i, hi, rfl⟩ := List.mem_map.1 he
      exact (Classical.choose_spec (each i) (List.mem_range.1 hi)).2.2.2
end
end Go.Proofs.Ytfblmmnofhkkaaa
