/- An argument that is a row of bytes, opened. -/
import Derived.Test.YtbhkgnhgecchcaaByt
import Derived.Test.YtbhkgnhgecchcaaLaw
import Derived.Deep.SlicePairs
import Derived.ChangeSlices
import Derived.ChangeMaps5
namespace Go.Proofs.Ytbhkgnhgecchcaa
open Go.ChangeShapes Go.WideShapes Go.ChangeAt Go.RowKit Go.Joins Go.Deep
theorem cells8 : Try.prog.cellsOf 5 = 1 := by kernel_rfl
theorem cell_lt8 {w : World} {a : Addr} {v : Value} (h : w.cell? a = some v) : a.block < w.heap.size := by
  rcases Nat.lt_or_ge a.block w.heap.size with h1 | h1
  · exact h1
  · simp [World.cell?, Array.getElem?_eq_none h1] at h
theorem add_block8 (a : Addr) (n : Nat) : (a.add n).block = a.block := by unfold Addr.add; split <;> rfl
theorem bv_ofNat {z : Int} (h : (Lit.int .u8 z).wf = true) : bv (UInt8.ofNat z.toNat) = .int .u8 z := by
  simp [Lit.wf, IntKind.min, IntKind.max, IntKind.signed, IntKind.bits] at h
  simp only [bv, UInt8.toNat_ofNat']
  congr 1
  omega
section
variable {H : Type} {enc : TypeId × Value → H} {w : World} {base : Nat} {spare : Nat → Bool} {held : Bool}
set_option maxRecDepth 100000 in
/-- An argument that is a row of bytes. -/
theorem open_bytes {r : Reach} {b0 : Nat} {v : Value} {d : DataW H} {p : List MemPlace} (hv : Value.okWide Try.prog w r b0 35 v) (h : DataW.Trod enc Try.prog w base spare held 35 v d p) :
    ∃ (A : Option Addr) (l : List UInt8) (cap : Nat), v = .slice A l.length cap ∧ l.length ≤ cap ∧ cap ≤ maxLen ∧ Rd w A l := by
  obtain ⟨A, n0, c0, rfl⟩ := okWide_slice Try.underlying35 hv
  obtain ⟨fuel, hf⟩ := h
  rcases open_ints Try.underlying35 Try.underlying5 cells8 hf with ⟨hc, _⟩ | ⟨a, len, cap, zs, hc, _, hl, hm, hz, _, hx, hw⟩
  · exact ⟨none, [], 0, by simpa [Value.cells] using hc, by simp, by simp [maxLen], Rd.nil_⟩
  · have hlz : len ≤ zs.length := by rw [hz]; split <;> omega
    have hlen : ((zs.take len).map fun z => UInt8.ofNat z.toNat).length = len := by simp; omega
    refine ⟨some a, (zs.take len).map fun z => UInt8.ofNat z.toNat, cap, ?_, by omega, hm, ?_⟩
    · rw [hlen]; simpa [Value.cells] using hc
    · refine ⟨by simp, fun h0 => ⟨a, rfl, ?_, fun j u hu => ?_⟩⟩
      · rw [hlen] at h0
        have := cell_lt8 (hx 0 (by omega)); rwa [add_block8] at this
      · have hj : j < len := by
          have := (List.getElem?_eq_some_iff.1 hu).1
          simp at this; omega
        have hj' : j < zs.length := by omega
        rw [hx j hj']
        simp [hj, hj'] at hu
        rw [← hu, bv_ofNat (hw _ (List.getElem_mem hj'))]
        simp [List.getD_eq_getElem?_getD, hj']
end
end Go.Proofs.Ytbhkgnhgecchcaa
