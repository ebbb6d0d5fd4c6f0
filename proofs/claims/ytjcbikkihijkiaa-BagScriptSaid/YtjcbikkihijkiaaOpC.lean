/- An argument that is a slice of acts (a truth and a value): opened. -/
import Derived.Test.YtjcbikkihijkiaaWir
import Derived.Test.YtjcbikkihijkiaaLaw
import Derived.Deep.Slices
import Derived.ChangeSlices
namespace Go.Proofs.Ytjcbikkihijkiaa
open Go.ChangeShapes Go.WideShapes Go.ChangeAt Go.RowKit Go.Joins Go.Deep
/-- An act: does it take; the number; over. -/
abbrev ActV := Bool × Int × Bool
theorem actAdd_block (a : Addr) (n : Nat) : (a.add n).block = a.block := by unfold Addr.add; split <;> rfl
theorem actAdd_add (a : Addr) (i j : Nat) : (a.add i).add j = a.add (i + j) := add_of_add a i j
theorem actCell_lt {w : World} {a : Addr} {v : Value} (h : w.cell? a = some v) : a.block < w.heap.size := by
  rcases Nat.lt_or_ge a.block w.heap.size with h1 | h1
  · exact h1
  · simp [World.cell?, Array.getElem?_eq_none h1] at h
/-- The acts at a. -/
def ActAt (w : World) (a : Addr) (l : List ActV) : Prop :=
  ∀ i (h : i < l.length), w.cell? (a.add (i * 3)) = some (.bool l[i].1) ∧ w.cell? (a.add (i * 3 + 1)) = some (.int .i64 l[i].2.1) ∧ w.cell? (a.add (i * 3 + 2)) = some (.bool l[i].2.2)
def RAct (w : World) (A : Option Addr) (l : List ActV) : Prop := 0 < l.length → ∃ a, A = some a ∧ a.block < w.heap.size ∧ ActAt w a l
theorem RAct.below {w w' : World} {A : Option Addr} {l : List ActV} (h : RAct w A l) (hb : Below w.heap.size w w') : RAct w' A l := fun h0 => by
  obtain ⟨a, h1, h2, h3⟩ := h h0
  refine ⟨a, h1, Nat.lt_of_lt_of_le h2 hb.size, fun i hi => ?_⟩
  obtain ⟨c0, c1, c2⟩ := h3 i hi
  rw [hb.cell (by rw [actAdd_block]; exact h2), hb.cell (by rw [actAdd_block]; exact h2), hb.cell (by rw [actAdd_block]; exact h2)]
  exact ⟨c0, c1, c2⟩
/-- An act's cells in the walk's spelling. -/
theorem ActAt.at_ {w : World} {a : Addr} {l : List ActV} (h : ActAt w a l) (i : Nat) (hi : i < l.length) : w.cell? (a.add (i * 3)) = some (.bool l[i].1) ∧
    w.cell? { block := (a.add (i * 3)).block, off := (a.add (i * 3)).off + 1 } = some (.int .i64 l[i].2.1) ∧ w.cell? { block := (a.add (i * 3)).block, off := (a.add (i * 3)).off + 2 } = some (.bool l[i].2.2) := by
  obtain ⟨c0, c1, c2⟩ := h i hi
  refine ⟨c0, ?_, ?_⟩
  · rw [← actAdd_add] at c1
    rw [← c1]; unfold Addr.add; split <;> rfl
  · rw [← actAdd_add] at c2
    rw [← c2]; unfold Addr.add; split <;> rfl
theorem undAct : ∃ f0 f1 : Field, Try.prog.underlying 44 = some (.struct #[f0, f1]) ∧ f0.offset = 0 ∧ f1.offset = 1 ∧ f0.type = 4 ∧ f1.type = 29 := ⟨_, _, Try.underlying44, rfl, rfl, rfl, rfl⟩
theorem undVal : ∃ f0 f1 : Field, Try.prog.underlying 29 = some (.struct #[f0, f1]) ∧ f0.offset = 0 ∧ f1.offset = 1 ∧ f0.type = 2 ∧ f1.type = 4 := ⟨_, _, Try.underlying29, rfl, rfl, rfl, rfl⟩
theorem actCV : Try.prog.cellsOf 29 = 2 := by kernel_rfl
theorem cellsAct : Try.prog.cellsOf 44 = 3 := by kernel_rfl
theorem actWf {n : Int} (h : (Lit.int .i64 n).wf = true) : In64 n := by
  simp [Lit.wf, IntKind.min, IntKind.max, IntKind.signed, IntKind.bits] at h
  exact h
theorem actC64 : Try.prog.cellsOf 2 = 1 := by kernel_rfl
theorem actCB : Try.prog.cellsOf 4 = 1 := by kernel_rfl
section
variable {H : Type} {enc : TypeId × Value → H} {w : World} {base : Nat} {spare : Nat → Bool} {held : Bool}
set_option maxRecDepth 100000 in
theorem open_acts {r : Reach} {b0 : Nat} {v : Value} {d : DataW H} {p : List MemPlace} (hv : Value.okWide Try.prog w r b0 40 v) (h : DataW.Trod enc Try.prog w base spare held 40 v d p) :
    ∃ (A : Option Addr) (l : List ActV) (cap : Nat), v = .slice A l.length cap ∧ l.length ≤ cap ∧ cap ≤ maxLen ∧ RAct w A l ∧ ∀ a ∈ l, In64 a.2.1 := by
  obtain ⟨A, n0, c0, rfl⟩ := okWide_slice Try.underlying40 hv
  obtain ⟨fuel, hf⟩ := h
  obtain ⟨f0, f1, hu, o0, o1, t0, t1⟩ := undAct
  obtain ⟨k0, k1, ku, p0, p1, s0, s1⟩ := undVal
  rcases open_slice Try.underlying40 hf with ⟨hc, _⟩ | ⟨a, len, cap, m, n, D, Pl, hc, hb, hl, hm, hmm, hx, hi⟩
  · exact ⟨none, [], 0, by simpa [Value.cells] using hc, by simp, by simp [maxLen], fun h => absurd h (by simp), by simp⟩
  · have hlm : len ≤ m := by rw [hmm]; split <;> omega
    have each : ∀ i, ∃ e : ActV, i < len → w.cell? (a.add (i * 3)) = some (.bool e.1) ∧ w.cell? (a.add (i * 3 + 1)) = some (.int .i64 e.2.1) ∧ w.cell? (a.add (i * 3 + 2)) = some (.bool e.2.2) ∧ In64 e.2.1 := fun i => by
      by_cases hi0 : i < len
      · obtain ⟨cs', h1, h2⟩ := hi i (by omega)
        rw [cellsAct] at h1
        obtain ⟨_, hlen, hcell⟩ := World.cells?_some h1
        obtain ⟨xs, k, hk, hxy, _, hxl, hg⟩ := DataW.trod_struct hu h2
        match xs, hxl, cs', hlen with
        | [y0, y1], _, [v0, v1, v2], _ =>
          have g0 := hg 0 f0 rfl
          have g1 := hg 1 f1 rfl
          simp [o0, o1, t0, t1, actCV, actCB] at g0 g1
          have e0 := hcell 0 (by omega)
          have e1 := hcell 1 (by omega)
          have e2 := hcell 2 (by omega)
          rw [actAdd_add] at e0 e1 e2
          simp at e0 e1 e2
          obtain ⟨xs2, k2, hk2, hxy2, _, hxl2, hg2⟩ := DataW.trod_struct ku g1
          match xs2, hxl2 with
          | [z0, z1], _ =>
            have h0 := hg2 0 k0 rfl
            have h1 := hg2 1 k1 rfl
            simp [p0, p1, s0, s1, actC64, actCB] at h0 h1
            obtain ⟨x0, q0, _⟩ := DataW.trod_bool Try.underlying4 g0
            obtain ⟨x1, q1, _, w1⟩ := DataW.trod_int Try.underlying2 h0
            obtain ⟨x2, q2, _⟩ := DataW.trod_bool Try.underlying4 h1
            simp at q0 q1 q2
            subst q0 q1 q2
            exact ⟨(x0, x1, x2), fun _ => ⟨e0, e1, e2, actWf w1⟩⟩
      · exact ⟨(false, 0, false), fun h => absurd h hi0⟩
    refine ⟨some a, (List.range len).map fun i => Classical.choose (each i), cap, ?_, by simpa using hl, hm, fun h0 => ⟨a, rfl, ?_, fun i hi => ?_⟩, fun e he => ?_⟩
    · simpa [Value.cells] using hc
    · have := (Classical.choose_spec (each 0) (by simpa using h0)).1
      have := actCell_lt this; rwa [actAdd_block] at this
    · have hi' : i < len := by simpa using hi
      obtain ⟨c1, c2, c3, _⟩ := Classical.choose_spec (each i) hi'
      simp only [List.getElem_map, List.getElem_range]
      exact ⟨c1, c2, c3⟩
    · obtain ⟨i, hi, rfl⟩ := List.mem_map.1 he
      exact (Classical.choose_spec (each i) (List.mem_range.1 hi)).2.2.2
end
end Go.Proofs.Ytjcbikkihijkiaa
