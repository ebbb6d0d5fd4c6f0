/- Pick: its contract. -/
import Derived.Test.YtfiinceogenlmaaNumL
import Derived.BigGuardPart
namespace Go.Proofs.Ytfiinceogenlmaa
open Go.RowKit
theorem pick_any (n m : Int) (hn : I64 n) (hm : 1 ≤ m) (hm2 : m ≤ 1000000) (w : World) :
    Calls Try.prog 12 #[.int .i64 n, .int .i64 m] w fun e w' => (∃ r, 0 ≤ r ∧ r < m ∧ e = .returned (.int .i64 r)) ∧ Below w.heap.size w w' := by
  obtain ⟨n1, n2⟩ := hn
  have t1 : -m < n.tmod m := Int.lt_tmod_of_pos n (by omega)
  have t2 : n.tmod m < m := Int.tmod_lt_of_pos n (by omega)
  by_cases h0 : 0 ≤ n
  · have u1 : 0 ≤ n % m := Int.emod_nonneg _ (by omega)
    have u2 : n % m < m := Int.emod_lt_of_pos _ (by omega)
    go_enter Try.func12, Try.ntmps12
    go_wp2
    go_ret
    exact ⟨⟨_, u1, u2, rfl⟩, Below.refl _ _⟩
  · by_cases h : n.tmod m < 0
    · go_enter Try.func12, Try.ntmps12
      go_wp2
      go_ret
      exact ⟨⟨_, by omega, by omega, rfl⟩, Below.refl _ _⟩
    · go_enter Try.func12, Try.ntmps12
      go_wp2
      go_ret
      exact ⟨⟨_, by omega, by omega, rfl⟩, Below.refl _ _⟩
end Go.Proofs.Ytfiinceogenlmaa
