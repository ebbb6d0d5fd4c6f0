/- number.Check, number.Of. -/
import Derived.Test.YtjcbikkihijkiaaBgK
namespace Go.Proofs.Ytjcbikkihijkiaa
open Go.RowKit
def chk (n : Int) (o : Bool) : Int := if o = true ∧ n ≠ 0 then 2 else 0
def I64 (n : Int) : Prop := -9223372036854775808 ≤ n ∧ n ≤ 9223372036854775807
theorem check_ok (n : Int) (o : Bool) (h : o = false ∨ n = 0) (w : World) :
    Calls Try.prog 27 #[.agg #[.int .i64 n, .bool o]] w fun e w' => e = .returned (.int .i64 0) ∧ Below w.heap.size w w' := by
  rcases h with rfl | rfl
  · go_enter Try.func27, Try.ntmps27
    go_wp2
    go_ret
    exact ⟨rfl, (Below.refl _ _).alloc (Nat.le_refl _) _⟩
  · cases o
    · go_enter Try.func27, Try.ntmps27
      go_wp2
      go_ret
      exact ⟨rfl, (Below.refl _ _).alloc (Nat.le_refl _) _⟩
    · go_enter Try.func27, Try.ntmps27
      go_wp2
      go_ret
      exact ⟨rfl, (Below.refl _ _).alloc (Nat.le_refl _) _⟩
theorem check_bad (n : Int) (h : n ≠ 0) (w : World) :
    Calls Try.prog 27 #[.agg #[.int .i64 n, .bool true]] w fun e w' => e = .returned (.int .i64 2) ∧ Below w.heap.size w w' := by
  have h' : (n != 0) = true := by simpa using h
  go_enter Try.func27, Try.ntmps27
  go_wp2
  go_ret
  exact ⟨rfl, (Below.refl _ _).alloc (Nat.le_refl _) _⟩
theorem check_any (n : Int) (o : Bool) (w : World) :
    Calls Try.prog 27 #[.agg #[.int .i64 n, .bool o]] w fun e w' => e = .returned (.int .i64 (chk n o)) ∧ Below w.heap.size w w' := by
  unfold chk
  by_cases h : o = true ∧ n ≠ 0
  · obtain ⟨rfl, h⟩ := h
    rw [if_pos ⟨rfl, h⟩]; exact check_bad n h w
  · rw [if_neg h]; exact check_ok n o (by cases o <;> simp_all) w
theorem of_any (n : Int) (w : World) :
    Calls Try.prog 57 #[.int .i64 n] w fun e w' => e = .returned (.agg #[.int .i64 n, .bool false]) ∧ Below w.heap.size w w' := by
  go_enter Try.func57, Try.ntmps57
  go_wp2
  exact bodyPost_ret (v := .agg #[.int .i64 n, .bool false]) (by simp [results, Try.results57, go_sem]) rfl ⟨rfl, (Below.refl _ _).alloc (Nat.le_refl _) _⟩
end Go.Proofs.Ytjcbikkihijkiaa
