/- Contracts of the number package's functions. -/
import Derived.Test.YtfiinceogenlmaaProg
import Derived.Test.YtfiinceogenlmaaReg
import Derived.Shelf.Bits.Mul64
import Derived.WalkKit
import Derived.WalkSpells
import Derived.WalkLawsBesides
import Derived.KernelRfl
import Derived.Lib.Hide
namespace Go.Proofs.Ytfiinceogenlmaa
open Go.RowKit

/-! ### The plain functions -/
def chk (n : Int) (o : Bool) : Int := if o = true ∧ n ≠ 0 then 2 else 0
def sizeN (n : Int) : Int := if n < 0 then -n else n
def I64 (n : Int) : Prop := -9223372036854775808 ≤ n ∧ n ≤ 9223372036854775807

theorem check_ok (n : Int) (o : Bool) (h : o = false ∨ n = 0) (w : World) :
    Calls Try.prog 11 #[.agg #[.int .i64 n, .bool o]] w fun e w' => e = .returned (.int .i64 0) ∧ Below w.heap.size w w' := by
  rcases h with rfl | rfl
  · go_enter Try.func11, Try.ntmps11
    go_wp2
    go_ret
    exact ⟨rfl, (Below.refl _ _).alloc (Nat.le_refl _) _⟩
  · cases o
    · go_enter Try.func11, Try.ntmps11
      go_wp2
      go_ret
      exact ⟨rfl, (Below.refl _ _).alloc (Nat.le_refl _) _⟩
    · go_enter Try.func11, Try.ntmps11
      go_wp2
      go_ret
      exact ⟨rfl, (Below.refl _ _).alloc (Nat.le_refl _) _⟩
theorem check_bad (n : Int) (h : n ≠ 0) (w : World) :
    Calls Try.prog 11 #[.agg #[.int .i64 n, .bool true]] w fun e w' => e = .returned (.int .i64 2) ∧ Below w.heap.size w w' := by
  have h' : (n != 0) = true := by simpa using h
  go_enter Try.func11, Try.ntmps11
  go_wp2
  go_ret
  exact ⟨rfl, (Below.refl _ _).alloc (Nat.le_refl _) _⟩
theorem check_any (n : Int) (o : Bool) (w : World) :
    Calls Try.prog 11 #[.agg #[.int .i64 n, .bool o]] w fun e w' => e = .returned (.int .i64 (chk n o)) ∧ Below w.heap.size w w' := by
  unfold chk
  by_cases h : o = true ∧ n ≠ 0
  · obtain ⟨rfl, h⟩ := h
    rw [if_pos ⟨rfl, h⟩]; exact check_bad n h w
  · rw [if_neg h]; exact check_ok n o (by cases o <;> simp_all) w

theorem of_any (n : Int) (w : World) :
    Calls Try.prog 27 #[.int .i64 n] w fun e w' => e = .returned (.agg #[.int .i64 n, .bool false]) ∧ Below w.heap.size w w' := by
  go_enter Try.func27, Try.ntmps27
  go_wp2
  exact bodyPost_ret (v := .agg #[.int .i64 n, .bool false]) (by simp [results, Try.results27, go_sem]) rfl ⟨rfl, (Below.refl _ _).alloc (Nat.le_refl _) _⟩
theorem over_any (w : World) :
    Calls Try.prog 43 #[] w fun e w' => e = .returned (.agg #[.int .i64 0, .bool true]) ∧ Below w.heap.size w w' := by
  go_enter Try.func43, Try.ntmps43
  go_wp2
  exact bodyPost_ret (v := .agg #[.int .i64 0, .bool true]) (by simp [results, Try.results43, go_sem]) rfl ⟨rfl, (Below.refl _ _).alloc (Nat.le_refl _) _⟩

theorem wrap_neg {n : Int} (h1 : -9223372036854775808 ≤ n) (hn : n < 0) : IntKind.u64.wrap (-IntKind.u64.wrap n) = -n := by
  rw [IntKind.wrap_u64, IntKind.wrap_u64]; omega
theorem size_any (n : Int) (h : I64 n) (w : World) :
    Calls Try.prog 61 #[.int .i64 n] w fun e w' => e = .returned (.int .u64 (sizeN n)) ∧ w = w' := by
  obtain ⟨h1, h2⟩ := h
  unfold sizeN
  by_cases hn : n < 0
  · rw [if_pos hn]
    go_enter Try.func61, Try.ntmps61
    go_wp2
    rw [wrap_neg h1 hn]
    go_ret
    exact ⟨rfl, rfl⟩
  · rw [if_neg hn]
    go_enter Try.func61, Try.ntmps61
    go_wp2
    go_ret
    exact ⟨rfl, rfl⟩

/-! ### Mul64, by the library's contract -/
open Go.Shelf in
def ren64 : Go.Shelf.Ren := ⟨fun | 264 => 60 | n => n, fun | 53 => 29 | 46 => 65 | n => n, fun | n => n⟩
theorem lays64 : Go.Proofs.Lays.n264 Try.prog ren64 := {
  mixed := by kernel_rfl
  f264 := Try.func60.trans (congrArg some (by kernel_rfl))
  t46 := Try.underlying65
  a46 := Try.isAgg65
  z46 := Try.sizeOf65
  v46 := Try.zeroValue65
  t53 := Try.underlying29
  a53 := Try.isAgg29
  z53 := Try.sizeOf29
  v53 := Try.zeroValue29 }

def hi64 (p : Int) : Int := p / 18446744073709551616
def lo64 (p : Int) : Int := p % 18446744073709551616
theorem mul64_any (x y : Int) (h0 : 0 ≤ x) (h1 : x ≤ 9223372036854775808) (g0 : 0 ≤ y) (g1 : y ≤ 9223372036854775808) (w : World) :
    Calls Try.prog 60 #[.int .u64 x, .int .u64 y] w fun e w' => e = .returned (.tuple #[.int .u64 (hi64 (x * y)), .int .u64 (lo64 (x * y))]) ∧ w = w' := by
  obtain ⟨a, rfl⟩ := Int.eq_ofNat_of_zero_le h0
  obtain ⟨b, rfl⟩ := Int.eq_ofNat_of_zero_le g0
  refine (Any.bits_Mul64 lays64 a b (by omega) (by omega) w).mono ?_
  rintro e w' ⟨rfl, rfl⟩
  refine ⟨?_, rfl⟩
  have e1 : hi64 ((a : Int) * b) = ((a * b / 18446744073709551616 : Nat) : Int) := by
    unfold hi64; rw [← Int.natCast_mul]; omega
  have e2 : lo64 ((a : Int) * b) = ((a * b % 18446744073709551616 : Nat) : Int) := by
    unfold lo64; rw [← Int.natCast_mul]; omega
  rw [e1, e2]

theorem sizeN_bd (n : Int) (h : I64 n) : 0 ≤ sizeN n ∧ sizeN n ≤ 9223372036854775808 := by
  obtain ⟨h1, h2⟩ := h
  unfold sizeN; split <;> omega

def TimesPost (a b : Int) (w : World) (e : Ending) (w' : World) : Prop :=
  (I64 (a * b) → e = .returned (.tuple #[.int .i64 (a * b), .bool true])) ∧ (¬ I64 (a * b) → ∃ m : Int, e = .returned (.tuple #[.int .i64 m, .bool false])) ∧ w = w'

theorem prod_bd (a b : Int) (ha : I64 a) (hb : I64 b) : 0 ≤ sizeN a * sizeN b := Int.mul_nonneg (sizeN_bd a ha).1 (sizeN_bd b hb).1
theorem prod_same (a b : Int) (h : decide (a < 0) = decide (b < 0)) : sizeN a * sizeN b = a * b := by
  unfold sizeN
  by_cases sa : a < 0
  · have sb : b < 0 := by simpa [sa] using h
    rw [if_pos sa, if_pos sb, Int.neg_mul_neg]
  · have sb : ¬ b < 0 := by simpa [sa] using h
    rw [if_neg sa, if_neg sb]
theorem prod_opp (a b : Int) (h : decide (a < 0) = !decide (b < 0)) : sizeN a * sizeN b = -(a * b) := by
  unfold sizeN
  by_cases sa : a < 0
  · have sb : ¬ b < 0 := by simpa [sa] using h
    rw [if_pos sa, if_neg sb, Int.neg_mul]
  · have sb : b < 0 := by simpa [sa] using h
    rw [if_neg sa, if_pos sb, Int.mul_neg]

theorem times_same (a b : Int) (ha : I64 a) (hb : I64 b) (w : World) (h : decide (a < 0) = decide (b < 0)) (hh : hi64 (sizeN a * sizeN b) = 0) :
    TimesPost a b w (.returned (.tuple #[.int .i64 (wrap64 (lo64 (sizeN a * sizeN b))), .bool (decide (lo64 (sizeN a * sizeN b) < 9223372036854775808))])) w := by
  have hp := prod_bd a b ha hb
  rw [prod_same a b h] at *
  unfold hi64 lo64 at *
  have e : a * b % 18446744073709551616 = a * b := by omega
  rw [e]
  refine ⟨fun hf => ?_, fun hf => ?_, rfl⟩
  · obtain ⟨h1, h2⟩ := hf
    rw [IntWalk.wrap64_in _ ⟨by omega, by omega⟩, decide_eq_true (by omega)]
  · rw [decide_eq_false (fun hlt => hf ⟨by omega, by omega⟩)]; exact ⟨_, rfl⟩
theorem times_opp (a b : Int) (ha : I64 a) (hb : I64 b) (w : World) (h : decide (a < 0) = !decide (b < 0)) (hh : hi64 (sizeN a * sizeN b) = 0) :
    TimesPost a b w (.returned (.tuple #[.int .i64 (wrap64 (IntKind.u64.wrap (-lo64 (sizeN a * sizeN b)))), .bool (decide (lo64 (sizeN a * sizeN b) ≤ 9223372036854775808))])) w := by
  have hp := prod_bd a b ha hb
  rw [prod_opp a b h] at *
  unfold hi64 lo64 at *
  have e : -(a * b) % 18446744073709551616 = -(a * b) := by omega
  rw [e]
  refine ⟨fun hf => ?_, fun hf => ?_, rfl⟩
  · obtain ⟨h1, h2⟩ := hf
    have e2 : wrap64 (IntKind.u64.wrap (- -(a * b))) = a * b := by
      rw [IntKind.wrap_u64]; unfold wrap64; omega
    rw [e2, decide_eq_true (by omega)]
  · rw [decide_eq_false (fun hlt => hf ⟨by omega, by omega⟩)]; exact ⟨_, rfl⟩
theorem times_hi (a b : Int) (ha : I64 a) (hb : I64 b) (w : World) (hh : hi64 (sizeN a * sizeN b) ≠ 0) :
    TimesPost a b w (.returned (.tuple #[.int .i64 0, .bool false])) w := by
  have hp := prod_bd a b ha hb
  refine ⟨fun hf => ?_, fun hf => ⟨_, rfl⟩, rfl⟩
  obtain ⟨h1, h2⟩ := hf
  exfalso
  apply hh
  unfold hi64
  by_cases h : decide (a < 0) = decide (b < 0)
  · rw [prod_same a b h] at *; omega
  · have h' : decide (a < 0) = !decide (b < 0) := by cases h1 : decide (a < 0) <;> cases h2 : decide (b < 0) <;> simp_all
    rw [prod_opp a b h'] at *; omega

set_option maxHeartbeats 1000000 in
theorem times_any (a b : Int) (ha : I64 a) (hb : I64 b) (w : World) :
    Calls Try.prog 44 #[.int .i64 a, .int .i64 b] w (TimesPost a b w) := by
  obtain ⟨hA0, hA1⟩ := sizeN_bd a ha
  obtain ⟨hB0, hB1⟩ := sizeN_bd b hb
  by_cases hh : hi64 (sizeN a * sizeN b) = 0
  · have hh' : (hi64 (sizeN a * sizeN b) != 0) = false := by simpa using hh
    have HH := Lib.hid hh
    clear hh
    by_cases sa : a < 0 <;> by_cases sb : b < 0 <;> (
      go_enter Try.func44, Try.ntmps44
      go_wp2_with fail
      refine (size_any a ha _).mono ?_; rintro e w' ⟨rfl, rfl⟩
      go_wp2_with fail
      refine (size_any b hb _).mono ?_; rintro e w' ⟨rfl, rfl⟩
      go_wp2_with fail
      refine (mul64_any _ _ hA0 hA1 hB0 hB1 _).mono ?_; rintro e w' ⟨rfl, rfl⟩
      go_wp2_with fail
      all_goals first
        | (have hc : (!decide (a < 0) == decide (b < 0)) = true := by assumption
           exfalso; revert hc; rw [decide_eq_false (by omega : ¬ a < 0), decide_eq_false (by omega : ¬ b < 0)]; decide)
        | (have hc : (!decide (a < 0)) = false := by assumption
           exfalso; simp at hc; omega)
        | (have hc : (!decide (b < 0)) = false := by assumption
           exfalso; simp at hc; omega)
        | (go_ret2
           first
             | exact times_same a b ha hb w (by simp only [decide_eq_decide]; omega) HH.out
             | exact times_opp a b ha hb w (by rw [← decide_not, decide_eq_decide]; omega) HH.out))
  · have hh' : (hi64 (sizeN a * sizeN b) != 0) = true := by simpa using hh
    have HH := Lib.hid hh
    clear hh
    go_enter Try.func44, Try.ntmps44
    go_wp2_with fail
    refine (size_any a ha _).mono ?_; rintro e w' ⟨rfl, rfl⟩
    go_wp2_with fail
    refine (size_any b hb _).mono ?_; rintro e w' ⟨rfl, rfl⟩
    go_wp2_with fail
    refine (mul64_any _ _ hA0 hA1 hB0 hB1 _).mono ?_; rintro e w' ⟨rfl, rfl⟩
    go_wp2_with fail
    go_ret2
    exact times_hi a b ha hb w HH.out

/-! ### Do -/
theorem do_bad (op a b : Int) (x y : Bool) (h : op < 1 ∨ 3 < op) (w : World) :
    Calls Try.prog 16 #[.int .i64 op, .agg #[.int .i64 a, .bool x], .agg #[.int .i64 b, .bool y]] w fun e w' => e = .returned (.tuple #[.agg #[.int .i64 0, .bool false], .int .i64 2]) ∧ Below w.heap.size w w' := by
  rcases h with h | h
  · go_enter Try.func16, Try.ntmps16
    go_wp2
    exact bodyPost_ret (v := .tuple #[.agg #[.int .i64 0, .bool false], .int .i64 2]) (by simp [results, Try.results16, go_sem]) rfl ⟨rfl, (((Below.refl _ _).alloc (Nat.le_refl _) _).alloc (by simp) _).alloc (by simp; omega) _⟩
  · have h' : ¬ op < 1 := by omega
    go_enter Try.func16, Try.ntmps16
    go_wp2
    exact bodyPost_ret (v := .tuple #[.agg #[.int .i64 0, .bool false], .int .i64 2]) (by simp [results, Try.results16, go_sem]) rfl ⟨rfl, (((Below.refl _ _).alloc (Nat.le_refl _) _).alloc (by simp) _).alloc (by simp; omega) _⟩


/-- The world behind Do's three variables. -/
def doW (w : World) (a b : Int) (x y : Bool) : World := ((w.alloc (.cells #[.int .i64 a, .bool x] 25)).alloc (.cells #[.int .i64 b, .bool y] 25)).alloc (.cells #[.int .i64 0, .bool false] 25)
theorem doW_base (w : World) (a b : Int) (x y : Bool) : Below w.heap.size w (doW w a b x y) := (((Below.refl _ _).alloc (Nat.le_refl _) _).alloc (by simp) _).alloc (by simp; omega) _
theorem doW_size (w : World) (a b : Int) (x y : Bool) : (doW w a b x y).heap.size = w.heap.size + 3 := by simp [doW]
theorem do_base {w : World} {a b : Int} {x y : Bool} {w' : World} (h : Below (doW w a b x y).heap.size (doW w a b x y) w') : Below w.heap.size w w' :=
  (doW_base w a b x y).trans (h.mono (by rw [doW_size]; omega))
def DoKeep (w : World) (a b : Int) (x y : Bool) (w' : World) : Prop :=
  w'.cell? ⟨w.heap.size, 0, none⟩ = some (.int .i64 a) ∧ w'.cell? ⟨w.heap.size, 1, none⟩ = some (.bool x) ∧ w'.cell? ⟨w.heap.size + 1, 0, none⟩ = some (.int .i64 b) ∧ w'.cell? ⟨w.heap.size + 1, 1, none⟩ = some (.bool y) ∧
  w'.cell? ⟨w.heap.size + 2, 0, none⟩ = some (.int .i64 0) ∧ w'.cell? ⟨w.heap.size + 2, 1, none⟩ = some (.bool false) ∧ w'.frozen? ⟨w.heap.size + 2, 0, none⟩ = false ∧ w'.frozen? ⟨w.heap.size + 2, 1, none⟩ = false ∧ w.heap.size + 2 < w'.heap.size
theorem do_keep {w : World} {a b : Int} {x y : Bool} {w' : World} (h : Below (doW w a b x y).heap.size (doW w a b x y) w') : DoKeep w a b x y w' := by
  obtain ⟨hc, hf⟩ := bcell h
  have hz := h.size
  rw [doW_size] at hc hf hz
  unfold DoKeep
  rw [hc _ _ (by omega), hc _ _ (by omega), hc _ _ (by omega), hc _ _ (by omega), hc _ _ (by omega), hc _ _ (by omega), hf _ _ (by omega), hf _ _ (by omega)]
  refine ⟨?_, ?_, ?_, ?_, ?_, ?_, ?_, ?_, by omega⟩ <;> (unfold doW; go_simp)

theorem do_over (op a b : Int) (x y : Bool) (h1 : 1 ≤ op) (h2 : op ≤ 3) (ha : x = false ∨ a = 0) (hb : y = false ∨ b = 0) (h : x = true ∨ y = true) (w : World) :
    Calls Try.prog 16 #[.int .i64 op, .agg #[.int .i64 a, .bool x], .agg #[.int .i64 b, .bool y]] w fun e w' => e = .returned (.tuple #[.agg #[.int .i64 0, .bool true], .int .i64 0]) ∧ Below w.heap.size w w' := by
  have HB : Below (doW w a b x y).heap.size (doW w a b x y) (doW w a b x y) := Below.refl _ _
  have CA := Lib.hid (fun W => check_ok a x ha W)
  have CB := Lib.hid (fun W => check_ok b y hb W)
  clear ha hb
  cases x
  · obtain rfl : y = true := by simpa using h
    clear h
    go_enter Try.func16, Try.ntmps16
    go_wp2_with fail; refine (CA.out _).mono ?_; rintro e w1 ⟨rfl, hb1⟩; replace HB := HB.trans (hb1.mono HB.size); clear hb1; have K := do_keep HB; unfold DoKeep at K; obtain ⟨k1, k2, k3, k4, k5, k6, k7, k8, k9⟩ := K
    go_wp2_with fail; refine (CB.out _).mono ?_; rintro e w1 ⟨rfl, hb1⟩; replace HB := HB.trans (hb1.mono HB.size); clear hb1; have K := do_keep HB; unfold DoKeep at K; obtain ⟨k1, k2, k3, k4, k5, k6, k7, k8, k9⟩ := K
    go_wp2_with fail; refine (over_any _).mono ?_; rintro e w1 ⟨rfl, hb1⟩; replace HB := HB.trans (hb1.mono HB.size); clear hb1; have K := do_keep HB; unfold DoKeep at K; obtain ⟨k1, k2, k3, k4, k5, k6, k7, k8, k9⟩ := K
    go_wp2_with fail
    refine bodyPost_ret (v := .tuple #[.agg #[.int .i64 0, .bool true], .int .i64 0]) (by simp only [results, Try.results16]; go_simp) rfl ⟨rfl, ?_⟩; exact ((do_base HB).setCell (by simp; omega) _).setCell (by simp; omega) _
  · clear h
    go_enter Try.func16, Try.ntmps16
    go_wp2_with fail; refine (CA.out _).mono ?_; rintro e w1 ⟨rfl, hb1⟩; replace HB := HB.trans (hb1.mono HB.size); clear hb1; have K := do_keep HB; unfold DoKeep at K; obtain ⟨k1, k2, k3, k4, k5, k6, k7, k8, k9⟩ := K
    go_wp2_with fail; refine (CB.out _).mono ?_; rintro e w1 ⟨rfl, hb1⟩; replace HB := HB.trans (hb1.mono HB.size); clear hb1; have K := do_keep HB; unfold DoKeep at K; obtain ⟨k1, k2, k3, k4, k5, k6, k7, k8, k9⟩ := K
    go_wp2_with fail; refine (over_any _).mono ?_; rintro e w1 ⟨rfl, hb1⟩; replace HB := HB.trans (hb1.mono HB.size); clear hb1; have K := do_keep HB; unfold DoKeep at K; obtain ⟨k1, k2, k3, k4, k5, k6, k7, k8, k9⟩ := K
    go_wp2_with fail
    refine bodyPost_ret (v := .tuple #[.agg #[.int .i64 0, .bool true], .int .i64 0]) (by simp only [results, Try.results16]; go_simp) rfl ⟨rfl, ?_⟩; exact ((do_base HB).setCell (by simp; omega) _).setCell (by simp; omega) _

/-- A value that may not be. -/
theorem do_bada (op a b : Int) (y : Bool) (h1 : 1 ≤ op) (h2 : op ≤ 3) (ha : a ≠ 0) (w : World) :
    Calls Try.prog 16 #[.int .i64 op, .agg #[.int .i64 a, .bool true], .agg #[.int .i64 b, .bool y]] w fun e w' => e = .returned (.tuple #[.agg #[.int .i64 0, .bool false], .int .i64 2]) ∧ Below w.heap.size w w' := by
  have HB : Below (doW w a b true y).heap.size (doW w a b true y) (doW w a b true y) := Below.refl _ _
  have CA := Lib.hid (fun W => check_bad a ha W)
  clear ha
  go_enter Try.func16, Try.ntmps16
  go_wp2_with fail; refine (CA.out _).mono ?_; rintro e w1 ⟨rfl, hb1⟩; replace HB := HB.trans (hb1.mono HB.size); clear hb1; have K := do_keep HB; unfold DoKeep at K; obtain ⟨k1, k2, k3, k4, k5, k6, k7, k8, k9⟩ := K
  go_wp2_with fail
  refine bodyPost_ret (v := .tuple #[.agg #[.int .i64 0, .bool false], .int .i64 2]) (by simp only [results, Try.results16]; go_simp) rfl ⟨rfl, ?_⟩; exact ((do_base HB).setCell (by simp; omega) _).setCell (by simp; omega) _
theorem do_badb (op a b : Int) (x : Bool) (h1 : 1 ≤ op) (h2 : op ≤ 3) (ha : x = false ∨ a = 0) (hb : b ≠ 0) (w : World) :
    Calls Try.prog 16 #[.int .i64 op, .agg #[.int .i64 a, .bool x], .agg #[.int .i64 b, .bool true]] w fun e w' => e = .returned (.tuple #[.agg #[.int .i64 0, .bool false], .int .i64 2]) ∧ Below w.heap.size w w' := by
  have HB : Below (doW w a b x true).heap.size (doW w a b x true) (doW w a b x true) := Below.refl _ _
  have CA := Lib.hid (fun W => check_ok a x ha W)
  have CB := Lib.hid (fun W => check_bad b hb W)
  clear ha hb
  go_enter Try.func16, Try.ntmps16
  go_wp2_with fail; refine (CA.out _).mono ?_; rintro e w1 ⟨rfl, hb1⟩; replace HB := HB.trans (hb1.mono HB.size); clear hb1; have K := do_keep HB; unfold DoKeep at K; obtain ⟨k1, k2, k3, k4, k5, k6, k7, k8, k9⟩ := K
  go_wp2_with fail; refine (CB.out _).mono ?_; rintro e w1 ⟨rfl, hb1⟩; replace HB := HB.trans (hb1.mono HB.size); clear hb1; have K := do_keep HB; unfold DoKeep at K; obtain ⟨k1, k2, k3, k4, k5, k6, k7, k8, k9⟩ := K
  go_wp2_with fail
  refine bodyPost_ret (v := .tuple #[.agg #[.int .i64 0, .bool false], .int .i64 2]) (by simp only [results, Try.results16]; go_simp) rfl ⟨rfl, ?_⟩; exact ((do_base HB).setCell (by simp; omega) _).setCell (by simp; omega) _

theorem add_out (a b : Int) (ha : I64 a) (hb : I64 b) (h : ¬ I64 (a + b)) : (decide (a < wrap64 (a + b)) == decide (0 < b)) = false := by
  obtain ⟨a1, a2⟩ := ha; obtain ⟨b1, b2⟩ := hb
  unfold I64 at h
  by_cases hb : 0 < b
  · have : ¬ a < wrap64 (a + b) := by unfold wrap64; omega
    simp [hb, this]
  · have : a < wrap64 (a + b) := by unfold wrap64; omega
    simp [hb, this]
theorem sub_out (a b : Int) (ha : I64 a) (hb : I64 b) (h : ¬ I64 (a - b)) : (decide (wrap64 (a - b) < a) == decide (0 < b)) = false := by
  obtain ⟨a1, a2⟩ := ha; obtain ⟨b1, b2⟩ := hb
  unfold I64 at h
  by_cases hb : 0 < b
  · have : ¬ wrap64 (a - b) < a := by unfold wrap64; omega
    simp [hb, this]
  · have : wrap64 (a - b) < a := by unfold wrap64; omega
    simp [hb, this]
theorem add_in (a b : Int) (h : I64 (a + b)) : wrap64 (a + b) = a + b ∧ (decide (a < a + b) == decide (0 < b)) = true := by
  refine ⟨IntWalk.wrap64_in _ ⟨h.1, by have := h.2; omega⟩, ?_⟩
  by_cases hb : 0 < b
  · rw [decide_eq_true hb, decide_eq_true (by omega)]; rfl
  · rw [decide_eq_false hb, decide_eq_false (by omega)]; rfl
theorem sub_in (a b : Int) (h : I64 (a - b)) : wrap64 (a - b) = a - b ∧ (decide (a - b < a) == decide (0 < b)) = true := by
  refine ⟨IntWalk.wrap64_in _ ⟨h.1, by have := h.2; omega⟩, ?_⟩
  by_cases hb : 0 < b
  · rw [decide_eq_true hb, decide_eq_true (by omega)]; rfl
  · rw [decide_eq_false hb, decide_eq_false (by omega)]; rfl

def DoPost (r : Int) (w : World) (e : Ending) (w' : World) : Prop :=
  (I64 r → e = .returned (.tuple #[.agg #[.int .i64 r, .bool false], .int .i64 0])) ∧ (¬ I64 r → e = .returned (.tuple #[.agg #[.int .i64 0, .bool true], .int .i64 0])) ∧ Below w.heap.size w w'

theorem DoPost.yes {r : Int} {w w' : World} (h : I64 r) (hb : Below w.heap.size w w') : DoPost r w (.returned (.tuple #[.agg #[.int .i64 r, .bool false], .int .i64 0])) w' := ⟨fun _ => rfl, fun g => absurd h g, hb⟩
theorem DoPost.no {r : Int} {w w' : World} (h : ¬ I64 r) (hb : Below w.heap.size w w') : DoPost r w (.returned (.tuple #[.agg #[.int .i64 0, .bool true], .int .i64 0])) w' := ⟨fun g => absurd g h, fun _ => rfl, hb⟩

theorem do_add (a b : Int) (ha : I64 a) (hb : I64 b) (w : World) :
    Calls Try.prog 16 #[.int .i64 1, .agg #[.int .i64 a, .bool false], .agg #[.int .i64 b, .bool false]] w (DoPost (a + b) w) := by
  have HB : Below (doW w a b false false).heap.size (doW w a b false false) (doW w a b false false) := Below.refl _ _; have CA := Lib.hid (fun W => check_ok a false (.inl rfl) W); have CB := Lib.hid (fun W => check_ok b false (.inl rfl) W)
  by_cases hf : I64 (a + b)
  · obtain ⟨e1, e2⟩ := add_in a b hf
    go_enter Try.func16, Try.ntmps16
    go_wp2_with fail; refine (CA.out _).mono ?_; rintro e w1 ⟨rfl, hb1⟩; replace HB := HB.trans (hb1.mono HB.size); clear hb1; have K := do_keep HB; unfold DoKeep at K; obtain ⟨k1, k2, k3, k4, k5, k6, k7, k8, k9⟩ := K
    go_wp2_with fail; refine (CB.out _).mono ?_; rintro e w1 ⟨rfl, hb1⟩; replace HB := HB.trans (hb1.mono HB.size); clear hb1; have K := do_keep HB; unfold DoKeep at K; obtain ⟨k1, k2, k3, k4, k5, k6, k7, k8, k9⟩ := K
    go_wp2_with fail; refine (of_any _ _).mono ?_; rintro e w1 ⟨rfl, hb1⟩; replace HB := HB.trans (hb1.mono HB.size); clear hb1; have K := do_keep HB; unfold DoKeep at K; obtain ⟨k1, k2, k3, k4, k5, k6, k7, k8, k9⟩ := K
    go_wp2_with fail
    refine bodyPost_ret (v := .tuple #[.agg #[.int .i64 (a + b), .bool false], .int .i64 0]) (by simp only [results, Try.results16]; go_simp) rfl (DoPost.yes hf ?_); exact ((do_base HB).setCell (by simp; omega) _).setCell (by simp; omega) _
  · have e1 := add_out a b ha hb hf
    go_enter Try.func16, Try.ntmps16
    go_wp2_with fail; refine (CA.out _).mono ?_; rintro e w1 ⟨rfl, hb1⟩; replace HB := HB.trans (hb1.mono HB.size); clear hb1; have K := do_keep HB; unfold DoKeep at K; obtain ⟨k1, k2, k3, k4, k5, k6, k7, k8, k9⟩ := K
    go_wp2_with fail; refine (CB.out _).mono ?_; rintro e w1 ⟨rfl, hb1⟩; replace HB := HB.trans (hb1.mono HB.size); clear hb1; have K := do_keep HB; unfold DoKeep at K; obtain ⟨k1, k2, k3, k4, k5, k6, k7, k8, k9⟩ := K
    go_wp2_with fail; refine (over_any _).mono ?_; rintro e w1 ⟨rfl, hb1⟩; replace HB := HB.trans (hb1.mono HB.size); clear hb1; have K := do_keep HB; unfold DoKeep at K; obtain ⟨k1, k2, k3, k4, k5, k6, k7, k8, k9⟩ := K
    go_wp2_with fail
    refine bodyPost_ret (v := .tuple #[.agg #[.int .i64 0, .bool true], .int .i64 0]) (by simp only [results, Try.results16]; go_simp) rfl (DoPost.no hf ?_); exact ((do_base HB).setCell (by simp; omega) _).setCell (by simp; omega) _
theorem do_sub (a b : Int) (ha : I64 a) (hb : I64 b) (w : World) :
    Calls Try.prog 16 #[.int .i64 2, .agg #[.int .i64 a, .bool false], .agg #[.int .i64 b, .bool false]] w (DoPost (a - b) w) := by
  have HB : Below (doW w a b false false).heap.size (doW w a b false false) (doW w a b false false) := Below.refl _ _; have CA := Lib.hid (fun W => check_ok a false (.inl rfl) W); have CB := Lib.hid (fun W => check_ok b false (.inl rfl) W)
  by_cases hf : I64 (a - b)
  · obtain ⟨e1, e2⟩ := sub_in a b hf
    go_enter Try.func16, Try.ntmps16
    go_wp2_with fail; refine (CA.out _).mono ?_; rintro e w1 ⟨rfl, hb1⟩; replace HB := HB.trans (hb1.mono HB.size); clear hb1; have K := do_keep HB; unfold DoKeep at K; obtain ⟨k1, k2, k3, k4, k5, k6, k7, k8, k9⟩ := K
    go_wp2_with fail; refine (CB.out _).mono ?_; rintro e w1 ⟨rfl, hb1⟩; replace HB := HB.trans (hb1.mono HB.size); clear hb1; have K := do_keep HB; unfold DoKeep at K; obtain ⟨k1, k2, k3, k4, k5, k6, k7, k8, k9⟩ := K
    go_wp2_with fail; refine (of_any _ _).mono ?_; rintro e w1 ⟨rfl, hb1⟩; replace HB := HB.trans (hb1.mono HB.size); clear hb1; have K := do_keep HB; unfold DoKeep at K; obtain ⟨k1, k2, k3, k4, k5, k6, k7, k8, k9⟩ := K
    go_wp2_with fail
    refine bodyPost_ret (v := .tuple #[.agg #[.int .i64 (a - b), .bool false], .int .i64 0]) (by simp only [results, Try.results16]; go_simp) rfl (DoPost.yes hf ?_); exact ((do_base HB).setCell (by simp; omega) _).setCell (by simp; omega) _
  · have e1 := sub_out a b ha hb hf
    go_enter Try.func16, Try.ntmps16
    go_wp2_with fail; refine (CA.out _).mono ?_; rintro e w1 ⟨rfl, hb1⟩; replace HB := HB.trans (hb1.mono HB.size); clear hb1; have K := do_keep HB; unfold DoKeep at K; obtain ⟨k1, k2, k3, k4, k5, k6, k7, k8, k9⟩ := K
    go_wp2_with fail; refine (CB.out _).mono ?_; rintro e w1 ⟨rfl, hb1⟩; replace HB := HB.trans (hb1.mono HB.size); clear hb1; have K := do_keep HB; unfold DoKeep at K; obtain ⟨k1, k2, k3, k4, k5, k6, k7, k8, k9⟩ := K
    go_wp2_with fail; refine (over_any _).mono ?_; rintro e w1 ⟨rfl, hb1⟩; replace HB := HB.trans (hb1.mono HB.size); clear hb1; have K := do_keep HB; unfold DoKeep at K; obtain ⟨k1, k2, k3, k4, k5, k6, k7, k8, k9⟩ := K
    go_wp2_with fail
    refine bodyPost_ret (v := .tuple #[.agg #[.int .i64 0, .bool true], .int .i64 0]) (by simp only [results, Try.results16]; go_simp) rfl (DoPost.no hf ?_); exact ((do_base HB).setCell (by simp; omega) _).setCell (by simp; omega) _
theorem do_mul (a b : Int) (ha : I64 a) (hb : I64 b) (w : World) :
    Calls Try.prog 16 #[.int .i64 3, .agg #[.int .i64 a, .bool false], .agg #[.int .i64 b, .bool false]] w (DoPost (a * b) w) := by
  have HB : Below (doW w a b false false).heap.size (doW w a b false false) (doW w a b false false) := Below.refl _ _; have CA := Lib.hid (fun W => check_ok a false (.inl rfl) W); have CB := Lib.hid (fun W => check_ok b false (.inl rfl) W)
  have CT := Lib.hid (fun W => times_any a b ha hb W)
  by_cases hf : I64 (a * b)
  · go_enter Try.func16, Try.ntmps16
    go_wp2_with fail; refine (CA.out _).mono ?_; rintro e w1 ⟨rfl, hb1⟩; replace HB := HB.trans (hb1.mono HB.size); clear hb1; have K := do_keep HB; unfold DoKeep at K; obtain ⟨k1, k2, k3, k4, k5, k6, k7, k8, k9⟩ := K
    go_wp2_with fail; refine (CB.out _).mono ?_; rintro e w1 ⟨rfl, hb1⟩; replace HB := HB.trans (hb1.mono HB.size); clear hb1; have K := do_keep HB; unfold DoKeep at K; obtain ⟨k1, k2, k3, k4, k5, k6, k7, k8, k9⟩ := K
    go_wp2_with fail
    refine (CT.out _).mono ?_
    rintro e w1 ⟨h1, h2, h3⟩
    obtain rfl := h1 hf
    subst h3
    clear h2
    go_wp2_with fail; refine (of_any _ _).mono ?_; rintro e w1 ⟨rfl, hb1⟩; replace HB := HB.trans (hb1.mono HB.size); clear hb1; have K := do_keep HB; unfold DoKeep at K; obtain ⟨k1, k2, k3, k4, k5, k6, k7, k8, k9⟩ := K
    go_wp2_with fail
    refine bodyPost_ret (v := .tuple #[.agg #[.int .i64 (a * b), .bool false], .int .i64 0]) (by simp only [results, Try.results16]; go_simp) rfl (DoPost.yes hf ?_); exact ((do_base HB).setCell (by simp; omega) _).setCell (by simp; omega) _
  · go_enter Try.func16, Try.ntmps16
    go_wp2_with fail; refine (CA.out _).mono ?_; rintro e w1 ⟨rfl, hb1⟩; replace HB := HB.trans (hb1.mono HB.size); clear hb1; have K := do_keep HB; unfold DoKeep at K; obtain ⟨k1, k2, k3, k4, k5, k6, k7, k8, k9⟩ := K
    go_wp2_with fail; refine (CB.out _).mono ?_; rintro e w1 ⟨rfl, hb1⟩; replace HB := HB.trans (hb1.mono HB.size); clear hb1; have K := do_keep HB; unfold DoKeep at K; obtain ⟨k1, k2, k3, k4, k5, k6, k7, k8, k9⟩ := K
    go_wp2_with fail
    refine (CT.out _).mono ?_
    rintro e w1 ⟨h1, h2, h3⟩
    obtain ⟨m, rfl⟩ := h2 hf
    subst h3
    clear h1
    go_wp2_with fail; refine (over_any _).mono ?_; rintro e w1 ⟨rfl, hb1⟩; replace HB := HB.trans (hb1.mono HB.size); clear hb1; have K := do_keep HB; unfold DoKeep at K; obtain ⟨k1, k2, k3, k4, k5, k6, k7, k8, k9⟩ := K
    go_wp2_with fail
    refine bodyPost_ret (v := .tuple #[.agg #[.int .i64 0, .bool true], .int .i64 0]) (by simp only [results, Try.results16]; go_simp) rfl (DoPost.no hf ?_); exact ((do_base HB).setCell (by simp; omega) _).setCell (by simp; omega) _
end Go.Proofs.Ytfiinceogenlmaa
