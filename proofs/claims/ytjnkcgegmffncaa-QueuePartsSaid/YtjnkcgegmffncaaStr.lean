/- Bytes as a text. -/
import Derived.Test.YtjnkcgegmffncaaByt
import Derived.Laws.BytesString
import Derived.Laws.BytesArg
namespace Go.Proofs.Ytjnkcgegmffncaa
open Go.RowKit
theorem run_loadCells_rd {w : World} {ad : Addr} {l : List UInt8} (h : ∀ j u, (l.map bv)[j]? = some u → w.cell? (ad.add j) = some u) : (loadCells ad l.length).run Try.prog w = .ok (l.map bv).toArray w := by
  have := run_firstCells_some (P := Try.prog) w 1 l.length ad l.length l.length (l.map bv) (by simp) h
  simpa [Builtin.firstCells] using this
theorem conv_rd {w : World} {A : Option Addr} {c : Nat} {l : List UInt8} (h : Rd w A l) : (convert 48 9 (.slice A l.length c)).run Try.prog w = .ok (.string ⟨l.toArray⟩) w := by
  rw [run_convert_bytes_string w 48 9 5 A l.length c Try.underlying48 Try.underlying5 Try.underlying9]
  cases A with
  | none =>
    have : l = [] := by
      rcases Nat.eq_zero_or_pos l.length with h0 | h0
      · exact List.eq_nil_of_length_eq_zero h0
      · obtain ⟨ad, e, _⟩ := h.2 h0; cases e
    subst this
    simp [Conv.bytesToString, Sem.run_pure]; rfl
  | some ad =>
    have hc : ∀ j u, (l.map bv)[j]? = some u → w.cell? (ad.add j) = some u := by
      intro j u hu
      have hj : j < l.length := by
        rcases Nat.lt_or_ge j l.length with h | h
        · exact h
        · rw [List.getElem?_eq_none (by simpa using h)] at hu; cases hu
      obtain ⟨ad', e, _, hc⟩ := h.2 (by omega)
      cases e
      exact hc j u hu
    have e : (l.map bv).toArray = ((l.map fun b => (b.toNat : Int)).map (Value.int .u8)).toArray := by simp [bv, Function.comp_def]
    have := run_bytesToString (P := Try.prog) w ad l.length c (l.map fun b => (b.toNat : Int)) (by rw [← e]; exact run_loadCells_rd hc)
    rw [this, foldl_push_bytes]
    congr 3
    simp [List.map_map, Function.comp_def]
end Go.Proofs.Ytjnkcgegmffncaa
