/- Contracts of the reference's great sums: the same posts as the program's. -/
import Derived.Test.YtbhkgnhgecchcaaGreat
import Derived.Shelf.Spec.BitsCarry
namespace Go.Proofs.Ytbhkgnhgecchcaa
open Go.RowKit

def bor (x y : Int) : Int := if x < y then 1 else 0
theorem sub64_0 (x y : Int) (hx : 0 ≤ x) (hy : 0 ≤ y) (hy' : y ≤ 18446744073709551615) (w : World) : (callFunc 70 #[.int .u64 x, .int .u64 y, .int .u64 0]).run Try.prog w =
    .ok (.value (.tuple #[.int .u64 (lo64 (x - y)), .int .u64 (bor x y)])) w := by
  obtain ⟨x, rfl⟩ := Int.eq_ofNat_of_zero_le hx
  obtain ⟨y, rfl⟩ := Int.eq_ofNat_of_zero_le hy
  have h := run_sub64 (P := Try.prog) x y 0 (by decide) w
  have e1 : lo64 ((x : Int) - y) = (((x + 18446744073709551616 - y - 0) % 18446744073709551616 : Nat) : Int) := by unfold lo64; omega
  have e2 : bor (x : Int) y = ((if x < y + 0 then 1 else 0 : Nat) : Int) := by unfold bor; split <;> split <;> omega
  rw [run_callFunc_extern Try.func70 (by kernel_rfl) (by kernel_rfl) (by kernel_rfl) (e := sub64Entry) (by kernel_rfl), e1, e2]
  exact congrArg (fun r => r.andThen fun a w' => Result.ok (Next.value a) w') h

theorem rboth_any (s t p q : Int) (w : World) :
    Calls Try.prog 66 #[.agg #[.int .i64 (gH (s)), .int .u64 (gL (s)), .int .u64 (p)], .agg #[.int .i64 (gH (t)), .int .u64 (gL (t)), .int .u64 (q)]] w fun e w' => e = .returned (.agg #[.int .i64 (gH (w128 (s + t))), .int .u64 (gL (w128 (s + t))), .int .u64 (lo64 (p + q))]) ∧ Below w.heap.size w w' := by
  have HB := Below.refl (boxes w [Obj.cells #[.int .i64 (gH (s)), .int .u64 (gL (s)), .int .u64 (p)] 75, Obj.cells #[.int .i64 (gH (t)), .int .u64 (gL (t)), .int .u64 (q)] 75, Obj.cells #[.int .i64 0, .int .u64 0, .int .u64 0] 75]).heap.size (boxes w [Obj.cells #[.int .i64 (gH (s)), .int .u64 (gL (s)), .int .u64 (p)] 75, Obj.cells #[.int .i64 (gH (t)), .int .u64 (gL (t)), .int .u64 (q)] 75, Obj.cells #[.int .i64 0, .int .u64 0, .int .u64 0] 75])
  have ha := fun W => add64_0 (gL s) (gL t) (gL_U s).1 (gL_U t).1 W
  rw [← plus_words, ← plus_low, ← u64_lo (p + q)]
  go_enter Try.func66, Try.ntmps66
  go_wp2
  refine bodyPost_ret (v := .agg #[.int .i64 (wrap64 (IntKind.u64.wrap (IntKind.u64.wrap (IntKind.u64.wrap (gH s) + IntKind.u64.wrap (gH t)) + hi64 (gL s + gL t)))), .int .u64 (lo64 (gL s + gL t)), .int .u64 (IntKind.u64.wrap (p + q))]) (by simp only [results, Try.results66]; go_simp) rfl ⟨rfl, ?_⟩; repeat (first | exact box_base HB | exact Below.refl _ _ | refine below_alloc ?_ _ | refine Below.setCell ?_ (by dsimp only; omega) _ | refine Below.drew ?_)

def wideH (n : Int) : Int := if n < 0 then 18446744073709551615 else 0
theorem wide_any (n : Int) (w : World) : Calls Try.prog 65 #[.int .i64 n] w fun e w' => e = .returned (.tuple #[.int .u64 (wideH n), .int .u64 (IntKind.u64.wrap n)]) ∧ w = w' := by
  unfold wideH
  by_cases h : n < 0
  · rw [if_pos h]
    go_enter Try.func65, Try.ntmps65
    go_wp2
    go_ret2
    exact ⟨rfl, rfl⟩
  · rw [if_neg h]
    go_enter Try.func65, Try.ntmps65
    go_wp2
    go_ret2
    exact ⟨rfl, rfl⟩
theorem wide_high {n : Int} (h : I64 n) : wrap64 (wideH n) = gH (ofT n false) := by
  obtain ⟨_, _⟩ := h
  unfold wideH wrap64 gH ofT
  simp only [Bool.false_eq_true, if_false]
  split <;> omega
theorem wideH_U (n : Int) : U64 (wideH n) := by unfold wideH U64; split <;> omega

theorem rput_any (t p n : Int) (o : Bool) (ht : I128 t) (hn : I64 n) (w : World) :
    Calls Try.prog 49 #[.agg #[.int .i64 (gH (t)), .int .u64 (gL (t)), .int .u64 (p)], .agg #[.int .i64 n, .bool o]] w fun e w' => e = .returned (.agg #[.int .i64 (gH (w128 (t + ofT n o))), .int .u64 (gL (w128 (t + ofT n o))), .int .u64 (lo64 (p + ofO o))]) ∧ Below w.heap.size w w' := by
  have HB := Below.refl (boxes w [Obj.cells #[.int .i64 (gH (t)), .int .u64 (gL (t)), .int .u64 (p)] 75, Obj.cells #[.int .i64 n, .bool o] 25, Obj.cells #[.int .i64 0, .int .u64 0, .int .u64 0] 75]).heap.size (boxes w [Obj.cells #[.int .i64 (gH (t)), .int .u64 (gL (t)), .int .u64 (p)] 75, Obj.cells #[.int .i64 n, .bool o] 25, Obj.cells #[.int .i64 0, .int .u64 0, .int .u64 0] 75])
  cases o
  · have C1 := Lib.hid (fun W => wide_any n W)
    have C2 := fun W => rboth_any t (ofT n false) p 0 W
    rw [← wide_high hn, ← of_low] at C2
    have C2 := Lib.hid C2
    rw [show ofO false = 0 from rfl]
    go_enter Try.func49, Try.ntmps49
    go_wp2_with fail
    refine (C1.out _).mono ?_; rintro e w1 ⟨rfl, rfl⟩
    go_wp2_with fail
    refine (C2.out _).mono ?_; rintro e w1 ⟨rfl, hb1⟩; replace HB := HB.trans (hb1.mono HB.size); clear hb1
    have k1 : (w1).cell? ⟨w.heap.size + 2, 0, none⟩ = some (.int .i64 0) := box_cell HB 2 0 rfl rfl _ rfl; have k2 : (w1).cell? ⟨w.heap.size + 2, 1, none⟩ = some (.int .u64 0) := box_cell HB 2 1 rfl rfl _ rfl; have k3 : (w1).cell? ⟨w.heap.size + 2, 2, none⟩ = some (.int .u64 0) := box_cell HB 2 2 rfl rfl _ rfl; have k4 : (w1).frozen? ⟨w.heap.size + 2, 0, none⟩ = false := box_free HB 2 0 rfl _ rfl; have k5 : (w1).frozen? ⟨w.heap.size + 2, 1, none⟩ = false := box_free HB 2 1 rfl _ rfl; have k6 : (w1).frozen? ⟨w.heap.size + 2, 2, none⟩ = false := box_free HB 2 2 rfl _ rfl; have k7 := box_lt HB 2 (by simp)
    go_wp2_with fail
    refine bodyPost_ret (v := .agg #[.int .i64 (gH (w128 (t + ofT n false))), .int .u64 (gL (w128 (t + ofT n false))), .int .u64 (lo64 (p + 0))]) (by simp only [results, Try.results49]; go_simp) rfl ⟨rfl, ?_⟩; repeat (first | exact box_base HB | exact Below.refl _ _ | refine below_alloc ?_ _ | refine Below.setCell ?_ (by dsimp only; omega) _ | refine Below.drew ?_)
  · have e1 : w128 (t + ofT n true) = t := by rw [show ofT n true = 0 from rfl, Int.add_zero]; exact w128_of ht
    rw [e1, show ofO true = 1 from rfl, ← u64_lo]
    go_enter Try.func49, Try.ntmps49
    go_wp2_with fail
    refine bodyPost_ret (v := .agg #[.int .i64 (gH t), .int .u64 (gL t), .int .u64 (IntKind.u64.wrap (p + 1))]) (by simp only [results, Try.results49]; go_simp) rfl ⟨rfl, ?_⟩; repeat (first | exact box_base HB | exact Below.refl _ _ | refine below_alloc ?_ _ | refine Below.setCell ?_ (by dsimp only; omega) _ | refine Below.drew ?_)

theorem take_words (t n : Int) (hn : I64 n) : wrap64 (IntKind.u64.wrap (IntKind.u64.wrap (IntKind.u64.wrap (gH t) - wideH n) - bor (gL t) (IntKind.u64.wrap n))) = gH (w128 (t - ofT n false)) := by
  obtain ⟨_, _⟩ := hn
  have e : ofT n false = n := rfl
  rw [e]
  simp only [IntKind.wrap_u64, wrap64, gH, gL, wideH, bor, w128]
  split <;> split <;> omega
theorem take_low (t n : Int) : lo64 (gL t - IntKind.u64.wrap n) = gL (w128 (t - ofT n false)) := by
  have e : ofT n false = n := rfl
  rw [e]
  simp only [lo64, IntKind.wrap_u64, gL, w128]; omega
theorem u64w_U (n : Int) : U64 (IntKind.u64.wrap n) := by rw [IntKind.wrap_u64]; unfold U64; omega
theorem rtake_any (t p n : Int) (o : Bool) (ht : I128 t) (hp : U64 p) (hn : I64 n) (w : World) :
    Calls Try.prog 64 #[.agg #[.int .i64 (gH (t)), .int .u64 (gL (t)), .int .u64 (p)], .agg #[.int .i64 n, .bool o]] w fun e w' => e = .returned (.agg #[.int .i64 (gH (w128 (t - ofT n o))), .int .u64 (gL (w128 (t - ofT n o))), .int .u64 (lo64 (p - ofO o))]) ∧ Below w.heap.size w w' := by
  have HB := Below.refl (boxes w [Obj.cells #[.int .i64 (gH (t)), .int .u64 (gL (t)), .int .u64 (p)] 75, Obj.cells #[.int .i64 n, .bool o] 25, Obj.cells #[.int .i64 0, .int .u64 0, .int .u64 0] 75]).heap.size (boxes w [Obj.cells #[.int .i64 (gH (t)), .int .u64 (gL (t)), .int .u64 (p)] 75, Obj.cells #[.int .i64 n, .bool o] 25, Obj.cells #[.int .i64 0, .int .u64 0, .int .u64 0] 75])
  cases o
  · have C1 := Lib.hid (fun W => wide_any n W)
    have e3 : lo64 (p - ofO false) = p := by rw [show ofO false = 0 from rfl, Int.sub_zero]; exact lo64_of hp
    rw [e3, ← take_words t n hn, ← take_low t n]
    have ha := fun W => sub64_0 (gL t) (IntKind.u64.wrap n) (gL_U t).1 (u64w_U n).1 (u64w_U n).2 W
    clear e3
    go_enter Try.func64, Try.ntmps64
    go_wp2_with fail
    refine (C1.out _).mono ?_; rintro e w1 ⟨rfl, rfl⟩
    go_wp2_with fail
    refine bodyPost_ret (v := .agg #[.int .i64 (wrap64 (IntKind.u64.wrap (IntKind.u64.wrap (IntKind.u64.wrap (gH t) - wideH n) - bor (gL t) (IntKind.u64.wrap n)))), .int .u64 (lo64 (gL t - IntKind.u64.wrap n)), .int .u64 p]) (by simp only [results, Try.results64]; go_simp) rfl ⟨rfl, ?_⟩; repeat (first | exact box_base HB | exact Below.refl _ _ | refine below_alloc ?_ _ | refine Below.setCell ?_ (by dsimp only; omega) _ | refine Below.drew ?_)
  · have e1 : w128 (t - ofT n true) = t := by rw [show ofT n true = 0 from rfl, Int.sub_zero]; exact w128_of ht
    rw [e1, show ofO true = 1 from rfl, ← u64_lo]
    go_enter Try.func64, Try.ntmps64
    go_wp2_with fail
    refine bodyPost_ret (v := .agg #[.int .i64 (gH t), .int .u64 (gL t), .int .u64 (IntKind.u64.wrap (p - 1))]) (by simp only [results, Try.results64]; go_simp) rfl ⟨rfl, ?_⟩; repeat (first | exact box_base HB | exact Below.refl _ _ | refine below_alloc ?_ _ | refine Below.setCell ?_ (by dsimp only; omega) _ | refine Below.drew ?_)

theorem rover_any (w : World) :
    Calls Try.prog 63 #[] w fun e w' => e = .returned (.agg #[.int .i64 0, .bool true]) ∧ Below w.heap.size w w' := by
  go_enter Try.func63, Try.ntmps63
  go_wp2
  exact bodyPost_ret (v := .agg #[.int .i64 0, .bool true]) (by simp [results, Try.results63, go_sem]) rfl ⟨rfl, (Below.refl _ _).alloc (Nat.le_refl _) _⟩
theorem rof_any (n : Int) (w : World) :
    Calls Try.prog 37 #[.int .i64 n] w fun e w' => e = .returned (.agg #[.int .i64 n, .bool false]) ∧ Below w.heap.size w w' := by
  go_enter Try.func37, Try.ntmps37
  go_wp2
  exact bodyPost_ret (v := .agg #[.int .i64 n, .bool false]) (by simp [results, Try.results37, go_sem]) rfl ⟨rfl, (Below.refl _ _).alloc (Nat.le_refl _) _⟩

def half (l : Int) : Prop := l < 9223372036854775808
theorem in_zero {t : Int} (h : gH t = 0) : I64 t ↔ gL t < 9223372036854775808 := by unfold I64 gL; unfold gH at h; omega
theorem in_ones {t : Int} (h : gH t = -1) : I64 t ↔ 9223372036854775808 ≤ gL t := by unfold I64 gL; unfold gH at h; omega
theorem in_else {t : Int} (h : gH t ≠ 0) (h' : gH t ≠ -1) : ¬ I64 t := by unfold I64; unfold gH at h h'; omega
theorem low_of {t : Int} (h : I64 t) : wrap64 (gL t) = t := (value_in h).2
theorem rvalue_any (t p : Int) (w : World) :
    Calls Try.prog 47 #[.agg #[.int .i64 (gH (t)), .int .u64 (gL (t)), .int .u64 (p)]] w fun e w' => e = .returned (.agg #[.int .i64 (gvN t p), .bool (gvO t p)]) ∧ Below w.heap.size w w' := by
  have HB := Below.refl (boxes w [Obj.cells #[.int .i64 (gH (t)), .int .u64 (gL (t)), .int .u64 (p)] 75, Obj.cells #[.int .i64 0, .bool false] 25]).heap.size (boxes w [Obj.cells #[.int .i64 (gH (t)), .int .u64 (gL (t)), .int .u64 (p)] 75, Obj.cells #[.int .i64 0, .bool false] 25])
  by_cases hp : p = 0
  · subst hp
    by_cases hi : I64 t
    · have e2 := low_of hi
      rw [(gvO_in hi).1, (gvO_in hi).2]
      by_cases h0 : gH t = 0
      · have f1 : (gH t == 0) = true := by simpa using h0
        have f2 : gL t < 9223372036854775808 := (in_zero h0).1 hi
        clear hi h0
        go_enter Try.func47, Try.ntmps47
        go_wp2_with fail; refine (rof_any _ _).mono ?_; rintro e w1 ⟨rfl, hb1⟩; replace HB := HB.trans (hb1.mono HB.size); clear hb1
        have k1 : (w1).cell? ⟨w.heap.size + 1, 0, none⟩ = some (.int .i64 0) := box_cell HB 1 0 rfl rfl _ rfl; have k2 : (w1).cell? ⟨w.heap.size + 1, 1, none⟩ = some (.bool false) := box_cell HB 1 1 rfl rfl _ rfl; have k4 : (w1).frozen? ⟨w.heap.size + 1, 0, none⟩ = false := box_free HB 1 0 rfl _ rfl; have k5 : (w1).frozen? ⟨w.heap.size + 1, 1, none⟩ = false := box_free HB 1 1 rfl _ rfl; have k7 := box_lt HB 1 (by simp); go_wp2_with fail; refine bodyPost_ret (v := .agg #[.int .i64 t, .bool false]) (by simp only [results, Try.results47]; go_simp) rfl ⟨rfl, ?_⟩; repeat (first | exact box_base HB | exact Below.refl _ _ | refine below_alloc ?_ _ | refine Below.setCell ?_ (by dsimp only; omega) _ | refine Below.drew ?_)
      · by_cases h1 : gH t = -1
        · have f1 : (gH t == 0) = false := by simpa using h0
          have f2 : (gH t == -1) = true := by simpa using h1
          have f3 : 9223372036854775808 ≤ gL t := (in_ones h1).1 hi
          clear hi h0 h1
          go_enter Try.func47, Try.ntmps47
          go_wp2_with fail; refine (rof_any _ _).mono ?_; rintro e w1 ⟨rfl, hb1⟩; replace HB := HB.trans (hb1.mono HB.size); clear hb1
          have k1 : (w1).cell? ⟨w.heap.size + 1, 0, none⟩ = some (.int .i64 0) := box_cell HB 1 0 rfl rfl _ rfl; have k2 : (w1).cell? ⟨w.heap.size + 1, 1, none⟩ = some (.bool false) := box_cell HB 1 1 rfl rfl _ rfl; have k4 : (w1).frozen? ⟨w.heap.size + 1, 0, none⟩ = false := box_free HB 1 0 rfl _ rfl; have k5 : (w1).frozen? ⟨w.heap.size + 1, 1, none⟩ = false := box_free HB 1 1 rfl _ rfl; have k7 := box_lt HB 1 (by simp); go_wp2_with fail; refine bodyPost_ret (v := .agg #[.int .i64 t, .bool false]) (by simp only [results, Try.results47]; go_simp) rfl ⟨rfl, ?_⟩; repeat (first | exact box_base HB | exact Below.refl _ _ | refine below_alloc ?_ _ | refine Below.setCell ?_ (by dsimp only; omega) _ | refine Below.drew ?_)
        · exact absurd hi (in_else h0 h1)
    · have h := @gvO_out t 0 (fun h => hi h.2)
      rw [h.1, h.2]
      clear h
      by_cases h0 : gH t = 0
      · have f1 : (gH t == 0) = true := by simpa using h0
        have f2 : ¬ gL t < 9223372036854775808 := fun h => hi ((in_zero h0).2 h)
        have f3 : (gH t == -1) = false := by rw [h0]; rfl
        clear hi h0
        go_enter Try.func47, Try.ntmps47
        go_wp2_with fail; refine (rover_any _).mono ?_; rintro e w1 ⟨rfl, hb1⟩; replace HB := HB.trans (hb1.mono HB.size); clear hb1
        have k1 : (w1).cell? ⟨w.heap.size + 1, 0, none⟩ = some (.int .i64 0) := box_cell HB 1 0 rfl rfl _ rfl; have k2 : (w1).cell? ⟨w.heap.size + 1, 1, none⟩ = some (.bool false) := box_cell HB 1 1 rfl rfl _ rfl; have k4 : (w1).frozen? ⟨w.heap.size + 1, 0, none⟩ = false := box_free HB 1 0 rfl _ rfl; have k5 : (w1).frozen? ⟨w.heap.size + 1, 1, none⟩ = false := box_free HB 1 1 rfl _ rfl; have k7 := box_lt HB 1 (by simp); go_wp2_with fail; refine bodyPost_ret (v := .agg #[.int .i64 0, .bool true]) (by simp only [results, Try.results47]; go_simp) rfl ⟨rfl, ?_⟩; repeat (first | exact box_base HB | exact Below.refl _ _ | refine below_alloc ?_ _ | refine Below.setCell ?_ (by dsimp only; omega) _ | refine Below.drew ?_)
      · by_cases h1 : gH t = -1
        · have f1 : (gH t == 0) = false := by simpa using h0
          have f2 : (gH t == -1) = true := by simpa using h1
          have f3 : ¬ 9223372036854775808 ≤ gL t := fun h => hi ((in_ones h1).2 h)
          clear hi h0 h1
          go_enter Try.func47, Try.ntmps47
          go_wp2_with fail; refine (rover_any _).mono ?_; rintro e w1 ⟨rfl, hb1⟩; replace HB := HB.trans (hb1.mono HB.size); clear hb1
          have k1 : (w1).cell? ⟨w.heap.size + 1, 0, none⟩ = some (.int .i64 0) := box_cell HB 1 0 rfl rfl _ rfl; have k2 : (w1).cell? ⟨w.heap.size + 1, 1, none⟩ = some (.bool false) := box_cell HB 1 1 rfl rfl _ rfl; have k4 : (w1).frozen? ⟨w.heap.size + 1, 0, none⟩ = false := box_free HB 1 0 rfl _ rfl; have k5 : (w1).frozen? ⟨w.heap.size + 1, 1, none⟩ = false := box_free HB 1 1 rfl _ rfl; have k7 := box_lt HB 1 (by simp); go_wp2_with fail; refine bodyPost_ret (v := .agg #[.int .i64 0, .bool true]) (by simp only [results, Try.results47]; go_simp) rfl ⟨rfl, ?_⟩; repeat (first | exact box_base HB | exact Below.refl _ _ | refine below_alloc ?_ _ | refine Below.setCell ?_ (by dsimp only; omega) _ | refine Below.drew ?_)
        · have f1 : (gH t == 0) = false := by simpa using h0
          have f2 : (gH t == -1) = false := by simpa using h1
          clear hi h0 h1
          go_enter Try.func47, Try.ntmps47
          go_wp2_with fail; refine (rover_any _).mono ?_; rintro e w1 ⟨rfl, hb1⟩; replace HB := HB.trans (hb1.mono HB.size); clear hb1
          have k1 : (w1).cell? ⟨w.heap.size + 1, 0, none⟩ = some (.int .i64 0) := box_cell HB 1 0 rfl rfl _ rfl; have k2 : (w1).cell? ⟨w.heap.size + 1, 1, none⟩ = some (.bool false) := box_cell HB 1 1 rfl rfl _ rfl; have k4 : (w1).frozen? ⟨w.heap.size + 1, 0, none⟩ = false := box_free HB 1 0 rfl _ rfl; have k5 : (w1).frozen? ⟨w.heap.size + 1, 1, none⟩ = false := box_free HB 1 1 rfl _ rfl; have k7 := box_lt HB 1 (by simp); go_wp2_with fail; refine bodyPost_ret (v := .agg #[.int .i64 0, .bool true]) (by simp only [results, Try.results47]; go_simp) rfl ⟨rfl, ?_⟩; repeat (first | exact box_base HB | exact Below.refl _ _ | refine below_alloc ?_ _ | refine Below.setCell ?_ (by dsimp only; omega) _ | refine Below.drew ?_)
  · have e1 : (p != 0) = true := by simpa using hp
    have h := @gvO_out t p (fun h => hp h.1)
    rw [h.1, h.2]
    clear h hp
    go_enter Try.func47, Try.ntmps47
    go_wp2_with fail; refine (rover_any _).mono ?_; rintro e w1 ⟨rfl, hb1⟩; replace HB := HB.trans (hb1.mono HB.size); clear hb1
    have k1 : (w1).cell? ⟨w.heap.size + 1, 0, none⟩ = some (.int .i64 0) := box_cell HB 1 0 rfl rfl _ rfl; have k2 : (w1).cell? ⟨w.heap.size + 1, 1, none⟩ = some (.bool false) := box_cell HB 1 1 rfl rfl _ rfl; have k4 : (w1).frozen? ⟨w.heap.size + 1, 0, none⟩ = false := box_free HB 1 0 rfl _ rfl; have k5 : (w1).frozen? ⟨w.heap.size + 1, 1, none⟩ = false := box_free HB 1 1 rfl _ rfl; have k7 := box_lt HB 1 (by simp); go_wp2_with fail; refine bodyPost_ret (v := .agg #[.int .i64 0, .bool true]) (by simp only [results, Try.results47]; go_simp) rfl ⟨rfl, ?_⟩; repeat (first | exact box_base HB | exact Below.refl _ _ | refine below_alloc ?_ _ | refine Below.setCell ?_ (by dsimp only; omega) _ | refine Below.drew ?_)
end Go.Proofs.Ytbhkgnhgecchcaa
