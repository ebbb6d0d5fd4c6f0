/- An argument that is a slice of ints: opened. -/
import Derived.Test.YtfblmmnofhkkaaaBfF
import Derived.Test.YtfblmmnofhkkaaaLaw
import Derived.ChangeSlices
namespace Go.Proofs.Ytfblmmnofhkkaaa
open Go.ChangeShapes Go.WideShapes Go.ChangeAt Go.RowKit Go.Joins Go.Deep
section
variable {H : Type} {enc : TypeId × Value → H} {w : World} {base : Nat} {spare : Nat → Bool} {held : Bool}
theorem open_rint {r : Reach} {b0 : Nat} {v : Value} {d : DataW H} {p : List MemPlace} (hv : Value.okWide Try.prog w r b0 47 v) (h : DataW.Trod enc Try.prog w base spare held 47 v d p) :
    ∃ (A : Option Addr) (zs : List Int) (cap : Nat), v = .slice A zs.length cap ∧ RInt w A zs := by
  obtain ⟨A, n0, c0, rfl⟩ := okWide_slice Try.underlying47 hv
  obtain ⟨fuel, hf⟩ := h
  rcases open_ints Try.underlying47 Try.underlying3 actCB hf with ⟨hc, _⟩ | ⟨a, len, cap, zs, hc, _, hl, hm, hz, _, hx, hw⟩
  · exact ⟨none, [], 0, by simpa [Value.cells] using hc, fun h => absurd h (by simp)⟩
  · have hlz : len ≤ zs.length := by rw [hz]; split <;> omega
    have hlen : (zs.take len).length = len := by simp; omega
    have hcell : ∀ i (hi : i < (zs.take len).length), w.cell? (a.add i) = some (.int .i64 (zs.take len)[i]) := fun i hi => by
      have := hx i (by omega)
      rw [this]
      have hi' : i < zs.length := by omega
      simp [List.getD_eq_getElem?_getD, hi']
    refine ⟨some a, zs.take len, cap, ?_, fun h0 => ⟨a, rfl, ?_, hcell⟩⟩
    · rw [hlen]; simpa [Value.cells] using hc
    · have := actCell_lt (hcell 0 h0); rwa [actAdd_block] at this
theorem trodAll_five {t t' t'' t3 t4 : TypeId} {args : Array Value} {ds : List (DataW H)} {ps : List MemPlace} (h : DataW.TrodAll enc Try.prog w base spare held [t, t', t'', t3, t4] args.toList ds ps) :
    ∃ v v' v'' v3 v4 d d' d'' d3 d4 p p' p'' p3 p4, args = #[v, v', v'', v3, v4] ∧ ds = [d, d', d'', d3, d4] ∧ ps = p ++ p' ++ p'' ++ p3 ++ p4 ∧ DataW.Trod enc Try.prog w base spare held t v d p ∧ DataW.Trod enc Try.prog w base spare held t' v' d' p' ∧ DataW.Trod enc Try.prog w base spare held t'' v'' d'' p'' ∧ DataW.Trod enc Try.prog w base spare held t3 v3 d3 p3 ∧ DataW.Trod enc Try.prog w base spare held t4 v4 d4 p4 := by
  obtain ⟨v, vs, d, ds', p, q, hargs, rfl, rfl, hd, hrest⟩ := trodAll_cons h
  obtain ⟨v', vs', d', ds'', p', q', rfl, rfl, rfl, hd', hrest'⟩ := trodAll_cons hrest
  obtain ⟨v'', vs'', d'', ds3, p'', q'', rfl, rfl, rfl, hd'', hrest''⟩ := trodAll_cons hrest'
  obtain ⟨v3, vs3, d3, ds4, p3, q3, rfl, rfl, rfl, hd3, hrest3⟩ := trodAll_cons hrest''
  obtain ⟨v4, vs4, d4, ds5, p4, q4, rfl, rfl, rfl, hd4, hrest4⟩ := trodAll_cons hrest3
  obtain ⟨rfl, rfl, rfl⟩ := trodAll_nil hrest4
  exact ⟨v, v', v'', v3, v4, d, d', d'', d3, d4, p, p', p'', p3, p4, by cases args; simp_all, rfl, by simp, hd, hd', hd'', hd3, hd4⟩
end
end Go.Proofs.Ytfblmmnofhkkaaa
