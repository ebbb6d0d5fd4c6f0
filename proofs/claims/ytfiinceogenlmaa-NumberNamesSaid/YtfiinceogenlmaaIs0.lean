/- Contracts of number.Is. -/
import Derived.Test.YtfiinceogenlmaaLives
namespace Go.Proofs.Ytfiinceogenlmaa
open Go.RowKit
def isV (op a n : Int) : Bool := if op = 4 then decide (a < n) else if op = 5 then decide (a ≤ n) else if op = 6 then decide (n < a) else if op = 7 then decide (n ≤ a) else if op = 8 then (a == n) else (a != n)

theorem is_bad (op a n : Int) (x : Bool) (h : op < 4 ∨ 9 < op) (w : World) :
    Calls Try.prog 24 #[.int .i64 op, .agg #[.int .i64 a, .bool x], .int .i64 n] w fun e w' => e = .returned (.tuple #[.bool false, .int .i64 2]) ∧ Below w.heap.size w w' := by
  rcases h with h | h
  · go_enter Try.func24, Try.ntmps24
    go_wp2_with fail
    go_ret2
    exact ⟨rfl, below_alloc (Below.refl _ _) _⟩
  · have h' : ¬ op < 4 := by omega
    go_enter Try.func24, Try.ntmps24
    go_wp2_with fail
    go_ret2
    exact ⟨rfl, below_alloc (Below.refl _ _) _⟩
theorem is_badv (op a n : Int) (h1 : 4 ≤ op) (h2 : op ≤ 9) (ha : a ≠ 0) (w : World) :
    Calls Try.prog 24 #[.int .i64 op, .agg #[.int .i64 a, .bool true], .int .i64 n] w fun e w' => e = .returned (.tuple #[.bool false, .int .i64 2]) ∧ Below w.heap.size w w' := by
  have HB := Below.refl (boxes w [Obj.cells #[.int .i64 a, .bool true] 25]).heap.size (boxes w [Obj.cells #[.int .i64 a, .bool true] 25])
  have C := Lib.hid (fun W => check_bad a ha W)
  clear ha
  go_enter Try.func24, Try.ntmps24; go_wp2_with fail; refine (C.out _).mono ?_; rintro e w1 ⟨rfl, hb1⟩; replace HB := HB.trans (hb1.mono HB.size); clear hb1
  go_wp2_with fail
  go_ret2
  exact ⟨rfl, box_base HB⟩
theorem is_over (op n : Int) (h1 : 4 ≤ op) (h2 : op ≤ 9) (w : World) :
    Calls Try.prog 24 #[.int .i64 op, .agg #[.int .i64 0, .bool true], .int .i64 n] w fun e w' => e = .returned (.tuple #[.bool false, .int .i64 0]) ∧ Below w.heap.size w w' := by
  have HB := Below.refl (boxes w [Obj.cells #[.int .i64 0, .bool true] 25]).heap.size (boxes w [Obj.cells #[.int .i64 0, .bool true] 25])
  have C := Lib.hid (fun W => check_ok 0 true (.inr rfl) W)
  go_enter Try.func24, Try.ntmps24; go_wp2_with fail; refine (C.out _).mono ?_; rintro e w1 ⟨rfl, hb1⟩; replace HB := HB.trans (hb1.mono HB.size); clear hb1
  have k1 : (w1).cell? ⟨w.heap.size, 1, none⟩ = some (.bool true) := box_cell HB 0 1 rfl rfl _ rfl
  go_wp2_with fail
  go_ret2
  exact ⟨rfl, box_base HB⟩
theorem is_num (op a n : Int) (h1 : 4 ≤ op) (h2 : op ≤ 9) (w : World) :
    Calls Try.prog 24 #[.int .i64 op, .agg #[.int .i64 a, .bool false], .int .i64 n] w fun e w' => e = .returned (.tuple #[.bool (isV op a n), .int .i64 0]) ∧ Below w.heap.size w w' := by
  have HB := Below.refl (boxes w [Obj.cells #[.int .i64 a, .bool false] 25]).heap.size (boxes w [Obj.cells #[.int .i64 a, .bool false] 25])
  have C := Lib.hid (fun W => check_ok a false (.inl rfl) W)
  have hop : op = 4 ∨ op = 5 ∨ op = 6 ∨ op = 7 ∨ op = 8 ∨ op = 9 := by omega
  rcases hop with rfl | rfl | rfl | rfl | rfl | rfl <;> (
    clear h1 h2
    go_enter Try.func24, Try.ntmps24; go_wp2_with fail; refine (C.out _).mono ?_; rintro e w1 ⟨rfl, hb1⟩; replace HB := HB.trans (hb1.mono HB.size); clear hb1
    have k1 : (w1).cell? ⟨w.heap.size, 1, none⟩ = some (.bool false) := box_cell HB 0 1 rfl rfl _ rfl
    have k2 : (w1).cell? ⟨w.heap.size, 0, none⟩ = some (.int .i64 a) := box_cell HB 0 0 rfl rfl _ rfl
    go_wp2_with fail
    go_ret2
    exact ⟨rfl, box_base HB⟩)

end Go.Proofs.Ytfiinceogenlmaa
