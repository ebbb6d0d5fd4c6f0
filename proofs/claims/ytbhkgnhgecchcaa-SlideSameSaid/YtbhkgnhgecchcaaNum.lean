/- Contracts of the number package's functions. -/
import Derived.Test.YtbhkgnhgecchcaaProg
import Derived.Test.YtbhkgnhgecchcaaReg
import Derived.Shelf.Spec.BitsCarry
import Derived.WalkKit
import Derived.WalkSpells
import Derived.WalkLawsBesides
import Derived.KernelRfl
import Derived.Lib.Hide
namespace Go.Proofs.Ytbhkgnhgecchcaa
open Go.RowKit

/-! ### The plain functions -/
def chk (n : Int) (o : Bool) : Int := if o = true ∧ n ≠ 0 then 2 else 0
def sizeN (n : Int) : Int := if n < 0 then -n else n
def I64 (n : Int) : Prop := -9223372036854775808 ≤ n ∧ n ≤ 9223372036854775807

theorem of_any (n : Int) (w : World) :
    Calls Try.prog 31 #[.int .i64 n] w fun e w' => e = .returned (.agg #[.int .i64 n, .bool false]) ∧ Below w.heap.size w w' := by
  go_enter Try.func31, Try.ntmps31
  go_wp2
  exact bodyPost_ret (v := .agg #[.int .i64 n, .bool false]) (by simp [results, Try.results31, go_sem]) rfl ⟨rfl, (Below.refl _ _).alloc (Nat.le_refl _) _⟩
theorem over_any (w : World) :
    Calls Try.prog 97 #[] w fun e w' => e = .returned (.agg #[.int .i64 0, .bool true]) ∧ Below w.heap.size w w' := by
  go_enter Try.func97, Try.ntmps97
  go_wp2
  exact bodyPost_ret (v := .agg #[.int .i64 0, .bool true]) (by simp [results, Try.results97, go_sem]) rfl ⟨rfl, (Below.refl _ _).alloc (Nat.le_refl _) _⟩

def hi64 (p : Int) : Int := p / 18446744073709551616
def lo64 (p : Int) : Int := p % 18446744073709551616
theorem sizeN_bd (n : Int) (h : I64 n) : 0 ≤ sizeN n ∧ sizeN n ≤ 9223372036854775808 := by
  obtain ⟨h1, h2⟩ := h
  unfold sizeN; split <;> omega

def TimesPost (a b : Int) (w : World) (e : Ending) (w' : World) : Prop :=
  (I64 (a * b) → e = .returned (.tuple #[.int .i64 (a * b), .bool true])) ∧ (¬ I64 (a * b) → ∃ m : Int, e = .returned (.tuple #[.int .i64 m, .bool false])) ∧ w = w'

theorem prod_bd (a b : Int) (ha : I64 a) (hb : I64 b) : 0 ≤ sizeN a * sizeN b := Int.mul_nonneg (sizeN_bd a ha).1 (sizeN_bd b hb).1
theorem prod_same (a b : Int) (h : decide (a < 0) = decide (b < 0)) : sizeN a * sizeN b = a * b := by
  unfold sizeN
  by_cases sa : a < 0
  · have sb : b < 0 := by simpa [sa] using h
    rw [if_pos sa, if_pos sb, Int.neg_mul_neg]
  · have sb : ¬ b < 0 := by simpa [sa] using h
    rw [if_neg sa, if_neg sb]
theorem prod_opp (a b : Int) (h : decide (a < 0) = !decide (b < 0)) : sizeN a * sizeN b = -(a * b) := by
  unfold sizeN
  by_cases sa : a < 0
  · have sb : ¬ b < 0 := by simpa [sa] using h
    rw [if_pos sa, if_neg sb, Int.neg_mul]
  · have sb : b < 0 := by simpa [sa] using h
    rw [if_neg sa, if_pos sb, Int.mul_neg]

end Go.Proofs.Ytbhkgnhgecchcaa
