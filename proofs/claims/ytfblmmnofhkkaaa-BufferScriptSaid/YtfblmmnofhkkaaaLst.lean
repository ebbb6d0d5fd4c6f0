/- The least number of which something is so: a loop's measure by a letter. No program. -/
import Derived.Test.YtfblmmnofhkkaaaOwn
namespace Go.Proofs.Ytfblmmnofhkkaaa
/-! ### The least number of which something is so: a loop's measure by a letter -/
theorem exists_least (P : Nat → Prop) : ∀ (m : Nat), P m → ∃ k, P k ∧ ∀ j, P j → k ≤ j := fun m => by
  induction m using Nat.strongRecOn with
  | ind m ih =>
    intro h
    by_cases hx : ∃ j, j < m ∧ P j
    · obtain ⟨j, h1, h2⟩ := hx; exact ih j h1 h2
    · refine ⟨m, h, fun j hj => ?_⟩
      rcases Nat.lt_or_ge j m with h1 | h1
      · exact (hx ⟨j, h1, hj⟩).elim
      · exact h1
open Classical in
noncomputable def least (P : Nat → Prop) : Nat := if h : ∃ k, P k ∧ ∀ j, P j → k ≤ j then h.choose else 0
theorem least_spec {P : Nat → Prop} (h : ∃ m, P m) : P (least P) := by
  obtain ⟨m, hm⟩ := h
  have hx := exists_least P m hm
  unfold least
  rw [dif_pos hx]
  exact hx.choose_spec.1
theorem least_le {P : Nat → Prop} {m : Nat} (hm : P m) : least P ≤ m := by
  have hx := exists_least P m hm
  unfold least
  rw [dif_pos hx]
  exact hx.choose_spec.2 m hm
end Go.Proofs.Ytfblmmnofhkkaaa
