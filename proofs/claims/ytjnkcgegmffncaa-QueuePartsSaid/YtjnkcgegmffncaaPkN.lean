/- Pick. -/
import Derived.Test.YtjnkcgegmffncaaOwn
namespace Go.Proofs.Ytjnkcgegmffncaa
open Go.RowKit
/-- Pick's own number. -/
def pickN (n m : Int) : Int := if n.tmod m < 0 then n.tmod m + m else n.tmod m
theorem pickN_in (n : Int) {m : Int} (hm : 1 ≤ m) : 0 ≤ pickN n m ∧ pickN n m < m := by
  have h1 := Int.tmod_lt_of_pos n (show 0 < m by omega)
  have h2 : -m < n.tmod m := by
    have := Int.tmod_lt_of_pos (-n) (show 0 < m by omega)
    rw [Int.neg_tmod] at this; omega
  unfold pickN; split <;> omega
set_option maxRecDepth 100000 in
theorem pick_any (n m : Int) (hm : 1 ≤ m ∧ m ≤ 1099511627776) (w : World) : Calls Try.prog 16 #[.int .i64 n, .int .i64 m] w fun e w' => e = .returned (.int .i64 (pickN n m)) ∧ w = w' := by
  have hm0 : (m == 0) = false := beq_eq_false_iff_ne.2 (by omega)
  have h1 := Int.tmod_lt_of_pos n (show 0 < m by omega)
  have h2 : -m < n.tmod m := by
    have := Int.tmod_lt_of_pos (-n) (show 0 < m by omega)
    rw [Int.neg_tmod] at this; omega
  unfold pickN
  go_enter Try.func16, Try.ntmps16
  go_wp2_with fail
  all_goals
    go_ret
    exact ⟨rfl, rfl⟩
end Go.Proofs.Ytjnkcgegmffncaa
