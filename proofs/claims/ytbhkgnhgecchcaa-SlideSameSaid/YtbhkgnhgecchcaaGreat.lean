/- Contracts of the great sums, the program's. A great sum as a number: gH, gL are its two words. -/
import Derived.Test.YtbhkgnhgecchcaaNum
namespace Go.Proofs.Ytbhkgnhgecchcaa
open Go.RowKit

def U64 (n : Int) : Prop := 0 ≤ n ∧ n ≤ 18446744073709551615

theorem add64_any (x y c : Int) (hx : 0 ≤ x) (hy : 0 ≤ y) (hc0 : 0 ≤ c) (hc : c ≤ 1) (w : World) : (callFunc 71 #[.int .u64 x, .int .u64 y, .int .u64 c]).run Try.prog w =
    .ok (.value (.tuple #[.int .u64 (lo64 (x + y + c)), .int .u64 (hi64 (x + y + c))])) w := by
  rw [run_callFunc_extern Try.func71 (by kernel_rfl) (by kernel_rfl) (by kernel_rfl) (e := add64Entry) (by kernel_rfl), run_add64 x y c hx hy hc0 hc]
  rfl
theorem add64_0 (x y : Int) (hx : 0 ≤ x) (hy : 0 ≤ y) (w : World) : (callFunc 71 #[.int .u64 x, .int .u64 y, .int .u64 0]).run Try.prog w =
    .ok (.value (.tuple #[.int .u64 (lo64 (x + y)), .int .u64 (hi64 (x + y))])) w := by
  simpa using add64_any x y 0 hx hy (Int.le_refl 0) (by decide) w

/-! ### A great sum as a number -/
def gH (t : Int) : Int := t / 18446744073709551616
def gL (t : Int) : Int := t % 18446744073709551616
def I128 (t : Int) : Prop := -170141183460469231731687303715884105728 ≤ t ∧ t ≤ 170141183460469231731687303715884105727
/-- What two words hold of a number. -/
def w128 (t : Int) : Int := (t + 170141183460469231731687303715884105728) % 340282366920938463463374607431768211456 - 170141183460469231731687303715884105728
def gT (h l : Int) : Int := h * 18446744073709551616 + l
theorem gH_T {h l : Int} (hl : U64 l) : gH (gT h l) = h := by unfold gH gT; obtain ⟨_, _⟩ := hl; omega
theorem gL_T {h l : Int} (hl : U64 l) : gL (gT h l) = l := by unfold gL gT; obtain ⟨_, _⟩ := hl; omega
theorem gT_I {h l : Int} (hh : I64 h) (hl : U64 l) : I128 (gT h l) := by unfold I128 gT; obtain ⟨_, _⟩ := hl; obtain ⟨_, _⟩ := hh; omega
theorem gH_I {t : Int} (h : I128 t) : I64 (gH t) := by unfold I64 gH; obtain ⟨_, _⟩ := h; omega
theorem gL_U (t : Int) : U64 (gL t) := by unfold U64 gL; omega
theorem w128_I (t : Int) : I128 (w128 t) := by unfold I128 w128; omega
theorem w128_of {t : Int} (h : I128 t) : w128 t = t := by unfold w128; obtain ⟨_, _⟩ := h; omega
theorem w128_add (s t : Int) : w128 (w128 s + t) = w128 (s + t) := by unfold w128; omega
theorem w128_add' (s t : Int) : w128 (s + w128 t) = w128 (s + t) := by unfold w128; omega
theorem lo64_add (s t : Int) : lo64 (lo64 s + t) = lo64 (s + t) := by unfold lo64; omega
theorem lo64_add' (s t : Int) : lo64 (s + lo64 t) = lo64 (s + t) := by unfold lo64; omega
theorem lo64_U (t : Int) : U64 (lo64 t) := by unfold U64 lo64; omega
theorem lo64_of {t : Int} (h : U64 t) : lo64 t = t := by unfold lo64; obtain ⟨_, _⟩ := h; omega

theorem plus_words (s t : Int) : wrap64 (IntKind.u64.wrap (IntKind.u64.wrap (IntKind.u64.wrap (gH s) + IntKind.u64.wrap (gH t)) + hi64 (gL s + gL t))) = gH (w128 (s + t)) := by
  simp only [IntKind.wrap_u64, wrap64, gH, gL, hi64, w128]; omega
theorem plus_low (s t : Int) : lo64 (gL s + gL t) = gL (w128 (s + t)) := by simp only [lo64, gL, w128]; omega
theorem u64_lo (t : Int) : IntKind.u64.wrap t = lo64 t := by rw [IntKind.wrap_u64]; rfl

theorem plus_any (s t p q : Int) (w : World) :
    Calls Try.prog 94 #[.agg #[.int .i64 (gH (s)), .int .u64 (gL (s)), .int .u64 (p)], .agg #[.int .i64 (gH (t)), .int .u64 (gL (t)), .int .u64 (q)]] w fun e w' => e = .returned (.agg #[.int .i64 (gH (w128 (s + t))), .int .u64 (gL (w128 (s + t))), .int .u64 (lo64 (p + q))]) ∧ Below w.heap.size w w' := by
  have HB := Below.refl (boxes w [Obj.cells #[.int .i64 (gH (s)), .int .u64 (gL (s)), .int .u64 (p)] 136, Obj.cells #[.int .i64 (gH (t)), .int .u64 (gL (t)), .int .u64 (q)] 136, .cells #[.int .i64 0, .int .u64 0, .int .u64 0] 136]).heap.size (boxes w [Obj.cells #[.int .i64 (gH (s)), .int .u64 (gL (s)), .int .u64 (p)] 136, Obj.cells #[.int .i64 (gH (t)), .int .u64 (gL (t)), .int .u64 (q)] 136, .cells #[.int .i64 0, .int .u64 0, .int .u64 0] 136])
  have ha := fun W => add64_0 (gL s) (gL t) (gL_U s).1 (gL_U t).1 W
  rw [← plus_words, ← plus_low, ← u64_lo (p + q)]
  go_enter Try.func94, Try.ntmps94
  go_wp2
  refine bodyPost_ret (v := .agg #[.int .i64 (wrap64 (IntKind.u64.wrap (IntKind.u64.wrap (IntKind.u64.wrap (gH s) + IntKind.u64.wrap (gH t)) + hi64 (gL s + gL t)))), .int .u64 (lo64 (gL s + gL t)), .int .u64 (IntKind.u64.wrap (p + q))]) (by simp only [results, Try.results94]; go_simp) rfl ⟨rfl, ?_⟩; repeat (first | exact box_base HB | exact Below.refl _ _ | refine below_alloc ?_ _ | refine Below.setCell ?_ (by dsimp only; omega) _ | refine Below.drew ?_)

/-! ### Its opposite -/
def notU (l : Int) : Int := 18446744073709551615 - l
def notI (h : Int) : Int := -1 - h
theorem ones_u : BitVec.ofInt 64 (IntKind.u64.max) = BitVec.allOnes 64 := by decide
theorem ones_i : BitVec.ofInt 64 (-1) = BitVec.allOnes 64 := by decide
theorem xor_ones (x : BitVec 64) : (BitVec.allOnes 64 ^^^ x).toNat = 18446744073709551615 - x.toNat := by
  rw [BitVec.allOnes_xor, BitVec.toNat_not]
theorem xor_u {l : Int} (h : U64 l) : bits BinOp.xor IntKind.u64 IntKind.u64.max l = notU l := by
  obtain ⟨h0, h1⟩ := h
  show IntKind.u64.wrap ((BitVec.ofInt 64 IntKind.u64.max ^^^ BitVec.ofInt 64 l).toNat : Int) = _
  rw [ones_u, xor_ones, IntKind.wrap_u64, BitVec.toNat_ofInt]
  unfold notU
  omega
theorem xor_i {l : Int} (h : I64 l) : bits BinOp.xor IntKind.i64 (-1) l = notI l := by
  obtain ⟨h0, h1⟩ := h
  show IntKind.i64.wrap ((BitVec.ofInt 64 (-1) ^^^ BitVec.ofInt 64 l).toNat : Int) = _
  rw [ones_i, xor_ones, IntKind.wrap_i64, BitVec.toNat_ofInt]
  unfold notI
  omega
theorem notU_0 {l : Int} (h : U64 l) : 0 ≤ notU l := by obtain ⟨_, _⟩ := h; unfold notU; omega

theorem turned_words (t : Int) : wrap64 (IntKind.u64.wrap (IntKind.u64.wrap (notI (gH t)) + hi64 (notU (gL t) + 1))) = gH (w128 (-t)) := by
  simp only [IntKind.wrap_u64, wrap64, gH, gL, hi64, w128, notI, notU]; omega
theorem turned_low (t : Int) : lo64 (notU (gL t) + 1) = gL (w128 (-t)) := by simp only [lo64, gL, w128, notU]; omega
theorem turned_any (t p : Int) (ht : I128 t) (w : World) :
    Calls Try.prog 96 #[.agg #[.int .i64 (gH (t)), .int .u64 (gL (t)), .int .u64 (p)]] w fun e w' => e = .returned (.agg #[.int .i64 (gH (w128 (-t))), .int .u64 (gL (w128 (-t))), .int .u64 (lo64 (-p))]) ∧ Below w.heap.size w w' := by
  have HB := Below.refl (boxes w [Obj.cells #[.int .i64 (gH (t)), .int .u64 (gL (t)), .int .u64 (p)] 136, .cells #[.int .i64 0, .int .u64 0, .int .u64 0] 136]).heap.size (boxes w [Obj.cells #[.int .i64 (gH (t)), .int .u64 (gL (t)), .int .u64 (p)] 136, .cells #[.int .i64 0, .int .u64 0, .int .u64 0] 136])
  have ha := fun W => add64_0 (notU (gL t)) 1 (notU_0 (gL_U t)) (by decide) W
  have hx := xor_u (gL_U t)
  have hy := xor_i (gH_I ht)
  have hs : IntKind.u64.signed = false := rfl
  have hs' : IntKind.i64.signed = true := rfl
  rw [← turned_words, ← turned_low, ← u64_lo (-p)]
  go_enter Try.func96, Try.ntmps96
  go_wp2
  refine bodyPost_ret (v := .agg #[.int .i64 (wrap64 (IntKind.u64.wrap (IntKind.u64.wrap (notI (gH t)) + hi64 (notU (gL t) + 1)))), .int .u64 (lo64 (notU (gL t) + 1)), .int .u64 (IntKind.u64.wrap (-p))]) (by simp only [results, Try.results96]; go_simp) rfl ⟨rfl, ?_⟩; repeat (first | exact box_base HB | exact Below.refl _ _ | refine below_alloc ?_ _ | refine Below.setCell ?_ (by dsimp only; omega) _ | refine Below.drew ?_)

/-- What a value puts to a great sum. -/
def ofT (n : Int) (o : Bool) : Int := if o = true then 0 else n
def ofO (o : Bool) : Int := if o = true then 1 else 0
theorem ofT_I {n : Int} (o : Bool) (h : I64 n) : I128 (ofT n o) := by obtain ⟨_, _⟩ := h; unfold I128 ofT; split <;> omega
theorem of_high {n : Int} (h : I64 n) : n / 9223372036854775808 = gH (ofT n false) := by obtain ⟨_, _⟩ := h; unfold gH ofT; simp only [Bool.false_eq_true, if_false]; omega
theorem of_low (n : Int) : IntKind.u64.wrap n = gL (ofT n false) := by rw [IntKind.wrap_u64]; rfl
theorem of_over (n : Int) : gH (ofT n true) = 0 ∧ gL (ofT n true) = 0 := by unfold gH gL ofT; simp
theorem vof_any (n : Int) (o : Bool) (b1 : I64 n) (w : World) :
    Calls Try.prog 95 #[.agg #[.int .i64 n, .bool o]] w fun e w' => e = .returned (.agg #[.int .i64 (gH (ofT n o)), .int .u64 (gL (ofT n o)), .int .u64 (ofO o)]) ∧ Below w.heap.size w w' := by
  cases o
  · rw [← of_high b1, ← of_low, show ofO false = 0 from rfl]
    go_enter Try.func95, Try.ntmps95
    go_wp2
    refine bodyPost_ret (v := .agg #[.int .i64 (n / 9223372036854775808), .int .u64 (IntKind.u64.wrap n), .int .u64 0]) (by simp only [results, Try.results95]; go_simp) rfl ⟨rfl, ?_⟩; repeat (first | exact box_base HB | exact Below.refl _ _ | refine below_alloc ?_ _ | refine Below.setCell ?_ (by dsimp only; omega) _ | refine Below.drew ?_)
  · rw [(of_over n).1, (of_over n).2, show ofO true = 1 from rfl]
    go_enter Try.func95, Try.ntmps95
    go_wp2
    refine bodyPost_ret (v := .agg #[.int .i64 0, .int .u64 0, .int .u64 1]) (by simp only [results, Try.results95]; go_simp) rfl ⟨rfl, ?_⟩; repeat (first | exact box_base HB | exact Below.refl _ _ | refine below_alloc ?_ _ | refine Below.setCell ?_ (by dsimp only; omega) _ | refine Below.drew ?_)

/-! ### Put, Take, Both, Value -/
theorem put_any (t p n : Int) (o : Bool) (hn : I64 n) (w : World) :
    Calls Try.prog 92 #[.agg #[.int .i64 (gH (t)), .int .u64 (gL (t)), .int .u64 (p)], .agg #[.int .i64 n, .bool o]] w fun e w' => e = .returned (.agg #[.int .i64 (gH (w128 (t + ofT n o))), .int .u64 (gL (w128 (t + ofT n o))), .int .u64 (lo64 (p + ofO o))]) ∧ Below w.heap.size w w' := by
  have HB := Below.refl (boxes w [Obj.cells #[.int .i64 (gH (t)), .int .u64 (gL (t)), .int .u64 (p)] 75, Obj.cells #[.int .i64 n, .bool o] 25, Obj.cells #[.int .i64 0, .int .u64 0, .int .u64 0] 75]).heap.size (boxes w [Obj.cells #[.int .i64 (gH (t)), .int .u64 (gL (t)), .int .u64 (p)] 75, Obj.cells #[.int .i64 n, .bool o] 25, Obj.cells #[.int .i64 0, .int .u64 0, .int .u64 0] 75])
  have C1 := Lib.hid (fun W => vof_any n o hn W)
  have C2 := Lib.hid (fun W => plus_any t (ofT n o) p (ofO o) W)
  go_enter Try.func92, Try.ntmps92
  go_wp2_with fail
  refine wp_region_perm 4 [(0, false), (1, false), (2, false), (3, false)] (fun _ => .cells #[] 0) (Below (boxes w [Obj.cells #[.int .i64 (gH (t)), .int .u64 (gL (t)), .int .u64 (p)] 75, Obj.cells #[.int .i64 n, .bool o] 25, Obj.cells #[.int .i64 0, .int .u64 0, .int .u64 0] 75]).heap.size (boxes w [Obj.cells #[.int .i64 (gH (t)), .int .u64 (gL (t)), .int .u64 (p)] 75, Obj.cells #[.int .i64 n, .bool o] 25, Obj.cells #[.int .i64 0, .int .u64 0, .int .u64 0] 75])) (by kernel_rfl) (by kernel_rfl) (Stab.below _ _ (Nat.le_refl _)) HB.drew ?_
  repeat (refine wpP_q rfl rfl rfl ?_; apply Exists.intro; refine ⟨fun w' hw' => ?_, fun K hK => ?_⟩; (focus ((have k1 : (w').cell? ⟨w.heap.size, 0, none⟩ = some (.int .i64 (gH t)) := box_cell hw' 0 0 rfl rfl _ rfl; have k2 : (w').cell? ⟨w.heap.size, 1, none⟩ = some (.int .u64 (gL t)) := box_cell hw' 0 1 rfl rfl _ rfl; have k3 : (w').cell? ⟨w.heap.size, 2, none⟩ = some (.int .u64 p) := box_cell hw' 0 2 rfl rfl _ rfl; have k4 : (w').cell? ⟨w.heap.size + 1, 0, none⟩ = some (.int .i64 n) := box_cell hw' 1 0 rfl rfl _ rfl; have k5 : (w').cell? ⟨w.heap.size + 1, 1, none⟩ = some (.bool o) := box_cell hw' 1 1 rfl rfl _ rfl); go_simp; first | exact quiet_value | first | with_reducible exact quiet_enter (C1.out _) | with_reducible exact quiet_enter (C2.out _))); simp only [Act.put, List.setIfInBounds_toArray, List.set_cons_zero, List.set_cons_succ]; refine hK.out _ ?_; clear hK K)
  refine wpP_nil ?_
  intro w1 HB
  have k1 : (w1).cell? ⟨w.heap.size + 2, 0, none⟩ = some (.int .i64 0) := box_cell HB 2 0 rfl rfl _ rfl; have k2 : (w1).cell? ⟨w.heap.size + 2, 1, none⟩ = some (.int .u64 0) := box_cell HB 2 1 rfl rfl _ rfl; have k3 : (w1).cell? ⟨w.heap.size + 2, 2, none⟩ = some (.int .u64 0) := box_cell HB 2 2 rfl rfl _ rfl; have k4 : (w1).frozen? ⟨w.heap.size + 2, 0, none⟩ = false := box_free HB 2 0 rfl _ rfl; have k5 : (w1).frozen? ⟨w.heap.size + 2, 1, none⟩ = false := box_free HB 2 1 rfl _ rfl; have k6 : (w1).frozen? ⟨w.heap.size + 2, 2, none⟩ = false := box_free HB 2 2 rfl _ rfl; have k7 := box_lt HB 2 (by simp)
  simp only [List.drop_succ_cons, List.drop_zero]
  go_wp2_with fail
  refine bodyPost_ret (v := .agg #[.int .i64 (gH (w128 (t + ofT n o))), .int .u64 (gL (w128 (t + ofT n o))), .int .u64 (lo64 (p + ofO o))]) (by simp only [results, Try.results92]; go_simp) rfl ⟨rfl, ?_⟩; repeat (first | exact box_base HB | exact Below.refl _ _ | refine below_alloc ?_ _ | refine Below.setCell ?_ (by dsimp only; omega) _ | refine Below.drew ?_)

theorem take_any (t p n : Int) (o : Bool) (hn : I64 n) (w : World) :
    Calls Try.prog 91 #[.agg #[.int .i64 (gH (t)), .int .u64 (gL (t)), .int .u64 (p)], .agg #[.int .i64 n, .bool o]] w fun e w' => e = .returned (.agg #[.int .i64 (gH (w128 (t - ofT n o))), .int .u64 (gL (w128 (t - ofT n o))), .int .u64 (lo64 (p - ofO o))]) ∧ Below w.heap.size w w' := by
  have e1 : w128 (t + w128 (-ofT n o)) = w128 (t - ofT n o) := w128_add' _ _
  have e2 : lo64 (p + lo64 (-ofO o)) = lo64 (p - ofO o) := lo64_add' _ _
  rw [← e1, ← e2]
  clear e1 e2
  have HB := Below.refl (boxes w [Obj.cells #[.int .i64 (gH (t)), .int .u64 (gL (t)), .int .u64 (p)] 75, Obj.cells #[.int .i64 n, .bool o] 25, Obj.cells #[.int .i64 0, .int .u64 0, .int .u64 0] 75]).heap.size (boxes w [Obj.cells #[.int .i64 (gH (t)), .int .u64 (gL (t)), .int .u64 (p)] 75, Obj.cells #[.int .i64 n, .bool o] 25, Obj.cells #[.int .i64 0, .int .u64 0, .int .u64 0] 75])
  have C1 := Lib.hid (fun W => vof_any n o hn W)
  have C2 := Lib.hid (fun W => turned_any (ofT n o) (ofO o) (ofT_I o hn) W)
  have C3 := Lib.hid (fun W => plus_any t (w128 (-ofT n o)) p (lo64 (-ofO o)) W)
  go_enter Try.func91, Try.ntmps91
  go_wp2_with fail
  refine wp_region_perm 5 [(0, false), (1, false), (2, false), (3, false), (4, false)] (fun _ => .cells #[] 0) (Below (boxes w [Obj.cells #[.int .i64 (gH (t)), .int .u64 (gL (t)), .int .u64 (p)] 75, Obj.cells #[.int .i64 n, .bool o] 25, Obj.cells #[.int .i64 0, .int .u64 0, .int .u64 0] 75]).heap.size (boxes w [Obj.cells #[.int .i64 (gH (t)), .int .u64 (gL (t)), .int .u64 (p)] 75, Obj.cells #[.int .i64 n, .bool o] 25, Obj.cells #[.int .i64 0, .int .u64 0, .int .u64 0] 75])) (by kernel_rfl) (by kernel_rfl) (Stab.below _ _ (Nat.le_refl _)) HB.drew ?_
  repeat (refine wpP_q rfl rfl rfl ?_; apply Exists.intro; refine ⟨fun w' hw' => ?_, fun K hK => ?_⟩; (focus ((have k1 : (w').cell? ⟨w.heap.size, 0, none⟩ = some (.int .i64 (gH t)) := box_cell hw' 0 0 rfl rfl _ rfl; have k2 : (w').cell? ⟨w.heap.size, 1, none⟩ = some (.int .u64 (gL t)) := box_cell hw' 0 1 rfl rfl _ rfl; have k3 : (w').cell? ⟨w.heap.size, 2, none⟩ = some (.int .u64 p) := box_cell hw' 0 2 rfl rfl _ rfl; have k4 : (w').cell? ⟨w.heap.size + 1, 0, none⟩ = some (.int .i64 n) := box_cell hw' 1 0 rfl rfl _ rfl; have k5 : (w').cell? ⟨w.heap.size + 1, 1, none⟩ = some (.bool o) := box_cell hw' 1 1 rfl rfl _ rfl); go_simp; first | exact quiet_value | first | with_reducible exact quiet_enter (C1.out _) | with_reducible exact quiet_enter (C2.out _) | with_reducible exact quiet_enter (C3.out _))); simp only [Act.put, List.setIfInBounds_toArray, List.set_cons_zero, List.set_cons_succ]; refine hK.out _ ?_; clear hK K)
  refine wpP_nil ?_
  intro w1 HB
  have k1 : (w1).cell? ⟨w.heap.size + 2, 0, none⟩ = some (.int .i64 0) := box_cell HB 2 0 rfl rfl _ rfl; have k2 : (w1).cell? ⟨w.heap.size + 2, 1, none⟩ = some (.int .u64 0) := box_cell HB 2 1 rfl rfl _ rfl; have k3 : (w1).cell? ⟨w.heap.size + 2, 2, none⟩ = some (.int .u64 0) := box_cell HB 2 2 rfl rfl _ rfl; have k4 : (w1).frozen? ⟨w.heap.size + 2, 0, none⟩ = false := box_free HB 2 0 rfl _ rfl; have k5 : (w1).frozen? ⟨w.heap.size + 2, 1, none⟩ = false := box_free HB 2 1 rfl _ rfl; have k6 : (w1).frozen? ⟨w.heap.size + 2, 2, none⟩ = false := box_free HB 2 2 rfl _ rfl; have k7 := box_lt HB 2 (by simp)
  simp only [List.drop_succ_cons, List.drop_zero]
  go_wp2_with fail
  refine bodyPost_ret (v := .agg #[.int .i64 (gH (w128 (t + w128 (-ofT n o)))), .int .u64 (gL (w128 (t + w128 (-ofT n o)))), .int .u64 (lo64 (p + lo64 (-ofO o)))]) (by simp only [results, Try.results91]; go_simp) rfl ⟨rfl, ?_⟩; repeat (first | exact box_base HB | exact Below.refl _ _ | refine below_alloc ?_ _ | refine Below.setCell ?_ (by dsimp only; omega) _ | refine Below.drew ?_)

theorem both_any (s t p q : Int) (w : World) :
    Calls Try.prog 113 #[.agg #[.int .i64 (gH (s)), .int .u64 (gL (s)), .int .u64 (p)], .agg #[.int .i64 (gH (t)), .int .u64 (gL (t)), .int .u64 (q)]] w fun e w' => e = .returned (.agg #[.int .i64 (gH (w128 (s + t))), .int .u64 (gL (w128 (s + t))), .int .u64 (lo64 (p + q))]) ∧ Below w.heap.size w w' := by
  have HB := Below.refl (boxes w [Obj.cells #[.int .i64 (gH (s)), .int .u64 (gL (s)), .int .u64 (p)] 75, Obj.cells #[.int .i64 (gH (t)), .int .u64 (gL (t)), .int .u64 (q)] 75, Obj.cells #[.int .i64 0, .int .u64 0, .int .u64 0] 75]).heap.size (boxes w [Obj.cells #[.int .i64 (gH (s)), .int .u64 (gL (s)), .int .u64 (p)] 75, Obj.cells #[.int .i64 (gH (t)), .int .u64 (gL (t)), .int .u64 (q)] 75, Obj.cells #[.int .i64 0, .int .u64 0, .int .u64 0] 75])
  have C1 := Lib.hid (fun W => plus_any s t p q W)
  go_enter Try.func113, Try.ntmps113
  go_wp2_with fail
  refine (C1.out _).mono ?_; rintro e w1 ⟨rfl, hb1⟩; replace HB := HB.trans (hb1.mono HB.size); clear hb1
  have k1 : (w1).cell? ⟨w.heap.size + 2, 0, none⟩ = some (.int .i64 0) := box_cell HB 2 0 rfl rfl _ rfl; have k2 : (w1).cell? ⟨w.heap.size + 2, 1, none⟩ = some (.int .u64 0) := box_cell HB 2 1 rfl rfl _ rfl; have k3 : (w1).cell? ⟨w.heap.size + 2, 2, none⟩ = some (.int .u64 0) := box_cell HB 2 2 rfl rfl _ rfl; have k4 : (w1).frozen? ⟨w.heap.size + 2, 0, none⟩ = false := box_free HB 2 0 rfl _ rfl; have k5 : (w1).frozen? ⟨w.heap.size + 2, 1, none⟩ = false := box_free HB 2 1 rfl _ rfl; have k6 : (w1).frozen? ⟨w.heap.size + 2, 2, none⟩ = false := box_free HB 2 2 rfl _ rfl; have k7 := box_lt HB 2 (by simp)
  go_wp2_with fail
  refine bodyPost_ret (v := .agg #[.int .i64 (gH (w128 (s + t))), .int .u64 (gL (w128 (s + t))), .int .u64 (lo64 (p + q))]) (by simp only [results, Try.results113]; go_simp) rfl ⟨rfl, ?_⟩; repeat (first | exact box_base HB | exact Below.refl _ _ | refine below_alloc ?_ _ | refine Below.setCell ?_ (by dsimp only; omega) _ | refine Below.drew ?_)

instance (n : Int) : Decidable (I64 n) := by unfold I64; exact inferInstance
/-- A sum's value. -/
def gvO (t p : Int) : Bool := !(decide (p = 0) && decide (I64 t))
def gvN (t p : Int) : Int := if gvO t p = true then 0 else t
theorem gvO_out {t p : Int} (h : ¬ (p = 0 ∧ I64 t)) : gvO t p = true ∧ gvN t p = 0 := by
  have e : gvO t p = true := by
    unfold gvO
    by_cases hp : p = 0 <;> by_cases hi : I64 t <;> simp_all
  exact ⟨e, by unfold gvN; rw [if_pos e]⟩
theorem gvO_in {t : Int} (h : I64 t) : gvO t 0 = false ∧ gvN t 0 = t := by
  have e : gvO t 0 = false := by unfold gvO; simp [h]
  exact ⟨e, by unfold gvN; rw [e]; simp⟩
theorem value_in {t : Int} (h : I64 t) : (gH t == wrap64 (gL t) / 9223372036854775808) = true ∧ wrap64 (gL t) = t := by
  obtain ⟨h1, h2⟩ := h
  have e : wrap64 (gL t) = t := by unfold wrap64 gL; omega
  refine ⟨?_, e⟩
  rw [e, beq_iff_eq]; unfold gH; omega
theorem value_out {t : Int} (hi : I128 t) (h : ¬ I64 t) : (gH t == wrap64 (gL t) / 9223372036854775808) = false := by
  rw [beq_eq_false_iff_ne]
  obtain ⟨h1, h2⟩ := hi
  intro e
  apply h
  unfold wrap64 gH gL at e
  unfold I64
  omega
theorem value_any (t p : Int) (ht : I128 t) (w : World) :
    Calls Try.prog 93 #[.agg #[.int .i64 (gH (t)), .int .u64 (gL (t)), .int .u64 (p)]] w fun e w' => e = .returned (.agg #[.int .i64 (gvN t p), .bool (gvO t p)]) ∧ Below w.heap.size w w' := by
  have HB := Below.refl (boxes w [Obj.cells #[.int .i64 (gH (t)), .int .u64 (gL (t)), .int .u64 (p)] 75, Obj.cells #[.int .i64 0, .bool false] 25]).heap.size (boxes w [Obj.cells #[.int .i64 (gH (t)), .int .u64 (gL (t)), .int .u64 (p)] 75, Obj.cells #[.int .i64 0, .bool false] 25])
  by_cases hp : p = 0
  · subst hp
    by_cases hi : I64 t
    · obtain ⟨e1, e2⟩ := value_in hi
      rw [(gvO_in hi).1, (gvO_in hi).2]
      rw [e2] at e1
      clear hi ht
      go_enter Try.func93, Try.ntmps93
      go_wp2_with fail; refine (of_any _ _).mono ?_; rintro e w1 ⟨rfl, hb1⟩; replace HB := HB.trans (hb1.mono HB.size); clear hb1
      have k1 : (w1).cell? ⟨w.heap.size + 1, 0, none⟩ = some (.int .i64 0) := box_cell HB 1 0 rfl rfl _ rfl; have k2 : (w1).cell? ⟨w.heap.size + 1, 1, none⟩ = some (.bool false) := box_cell HB 1 1 rfl rfl _ rfl; have k4 : (w1).frozen? ⟨w.heap.size + 1, 0, none⟩ = false := box_free HB 1 0 rfl _ rfl; have k5 : (w1).frozen? ⟨w.heap.size + 1, 1, none⟩ = false := box_free HB 1 1 rfl _ rfl; have k7 := box_lt HB 1 (by simp); go_wp2_with fail; refine bodyPost_ret (v := .agg #[.int .i64 t, .bool false]) (by simp only [results, Try.results93]; go_simp) rfl ⟨rfl, ?_⟩; repeat (first | exact box_base HB | exact Below.refl _ _ | refine below_alloc ?_ _ | refine Below.setCell ?_ (by dsimp only; omega) _ | refine Below.drew ?_)
    · have e1 := value_out ht hi
      have h := @gvO_out t 0 (fun h => hi h.2)
      rw [h.1, h.2]
      clear h hi ht
      go_enter Try.func93, Try.ntmps93
      go_wp2_with fail; refine (over_any _).mono ?_; rintro e w1 ⟨rfl, hb1⟩; replace HB := HB.trans (hb1.mono HB.size); clear hb1
      have k1 : (w1).cell? ⟨w.heap.size + 1, 0, none⟩ = some (.int .i64 0) := box_cell HB 1 0 rfl rfl _ rfl; have k2 : (w1).cell? ⟨w.heap.size + 1, 1, none⟩ = some (.bool false) := box_cell HB 1 1 rfl rfl _ rfl; have k4 : (w1).frozen? ⟨w.heap.size + 1, 0, none⟩ = false := box_free HB 1 0 rfl _ rfl; have k5 : (w1).frozen? ⟨w.heap.size + 1, 1, none⟩ = false := box_free HB 1 1 rfl _ rfl; have k7 := box_lt HB 1 (by simp); go_wp2_with fail; refine bodyPost_ret (v := .agg #[.int .i64 0, .bool true]) (by simp only [results, Try.results93]; go_simp) rfl ⟨rfl, ?_⟩; repeat (first | exact box_base HB | exact Below.refl _ _ | refine below_alloc ?_ _ | refine Below.setCell ?_ (by dsimp only; omega) _ | refine Below.drew ?_)
  · have e1 : (p == 0) = false := by simpa using hp
    have h := @gvO_out t p (fun h => hp h.1)
    rw [h.1, h.2]
    clear h ht hp
    go_enter Try.func93, Try.ntmps93
    go_wp2_with fail; refine (over_any _).mono ?_; rintro e w1 ⟨rfl, hb1⟩; replace HB := HB.trans (hb1.mono HB.size); clear hb1
    have k1 : (w1).cell? ⟨w.heap.size + 1, 0, none⟩ = some (.int .i64 0) := box_cell HB 1 0 rfl rfl _ rfl; have k2 : (w1).cell? ⟨w.heap.size + 1, 1, none⟩ = some (.bool false) := box_cell HB 1 1 rfl rfl _ rfl; have k4 : (w1).frozen? ⟨w.heap.size + 1, 0, none⟩ = false := box_free HB 1 0 rfl _ rfl; have k5 : (w1).frozen? ⟨w.heap.size + 1, 1, none⟩ = false := box_free HB 1 1 rfl _ rfl; have k7 := box_lt HB 1 (by simp); go_wp2_with fail; refine bodyPost_ret (v := .agg #[.int .i64 0, .bool true]) (by simp only [results, Try.results93]; go_simp) rfl ⟨rfl, ?_⟩; repeat (first | exact box_base HB | exact Below.refl _ _ | refine below_alloc ?_ _ | refine Below.setCell ?_ (by dsimp only; omega) _ | refine Below.drew ?_)
end Go.Proofs.Ytbhkgnhgecchcaa
