/- Contracts of the reference's Check, times, Do, Is. -/
import Derived.Test.YtfiinceogenlmaaRef
namespace Go.Proofs.Ytfiinceogenlmaa
open Go.RowKit
theorem rcheck_ok (n : Int) (o : Bool) (h : o = false ∨ n = 0) (w : World) :
    Calls Try.prog 26 #[.agg #[.int .i64 n, .bool o]] w fun e w' => e = .returned (.int .i64 0) ∧ Below w.heap.size w w' := by
  rcases h with rfl | rfl
  · go_enter Try.func26, Try.ntmps26
    go_wp2
    go_ret
    exact ⟨rfl, (Below.refl _ _).alloc (Nat.le_refl _) _⟩
  · cases o
    · go_enter Try.func26, Try.ntmps26
      go_wp2
      go_ret
      exact ⟨rfl, (Below.refl _ _).alloc (Nat.le_refl _) _⟩
    · go_enter Try.func26, Try.ntmps26
      go_wp2
      go_ret
      exact ⟨rfl, (Below.refl _ _).alloc (Nat.le_refl _) _⟩
theorem rcheck_bad (n : Int) (h : n ≠ 0) (w : World) :
    Calls Try.prog 26 #[.agg #[.int .i64 n, .bool true]] w fun e w' => e = .returned (.int .i64 2) ∧ Below w.heap.size w w' := by
  have h' : (n != 0) = true := by simpa using h
  go_enter Try.func26, Try.ntmps26
  go_wp2
  go_ret
  exact ⟨rfl, (Below.refl _ _).alloc (Nat.le_refl _) _⟩

/-! ### times -/
theorem wrap_mul (a b : Int) : wrap64 (IntKind.u64.wrap (IntKind.u64.wrap a * IntKind.u64.wrap b)) = wrap64 (a * b) := by
  simp only [IntKind.wrap_u64]
  rw [← Int.mul_emod]
  unfold wrap64
  omega
theorem wrap_mul_in {a b : Int} (h : I64 (a * b)) : wrap64 (a * b) = a * b := IntWalk.wrap64_in _ ⟨h.1, by have := h.2; omega⟩
theorem tdiv_in {a b : Int} (hb : b ≠ 0) (h : I64 (a * b)) (ha : I64 a) : wrap64 ((wrap64 (a * b)).tdiv b) = a := by
  rw [wrap_mul_in h, Int.mul_tdiv_cancel _ hb]
  obtain ⟨_, _⟩ := ha
  exact IntWalk.wrap64_in _ ⟨by omega, by omega⟩
theorem wrap_small (d : Int) (h : d.natAbs ≤ 4611686018427387904) : wrap64 d = d := IntWalk.wrap64_in _ ⟨by omega, by omega⟩
theorem tdiv_bd {c b : Int} (hc : I64 c) (hb1 : b ≠ -1) (hb : b ≠ 0) : wrap64 (c.tdiv b) = c.tdiv b := by
  obtain ⟨c1, c2⟩ := hc
  have h := Int.natAbs_tdiv c b
  have h2 : 2 ≤ b.natAbs ∨ b = 1 := by omega
  rcases h2 with h2 | rfl
  · have h3 : (c.tdiv b).natAbs ≤ c.natAbs / 2 := by rw [h]; exact Nat.div_le_div_left h2 (by omega)
    have h5 : (c.tdiv b).natAbs ≤ 4611686018427387904 := Nat.le_trans h3 (by omega)
    exact wrap_small _ h5
  · rw [Int.tdiv_one]; exact IntWalk.wrap64_in _ ⟨by omega, by omega⟩
theorem w64_I (x : Int) : I64 (wrap64 x) := by unfold I64 wrap64; omega
theorem tdiv_out {a b : Int} (hb0 : b ≠ 0) (hb1 : b ≠ -1) (hb : I64 b) (h : ¬ I64 (a * b)) : wrap64 ((wrap64 (a * b)).tdiv b) ≠ a := by
  rw [tdiv_bd (w64_I _) hb1 hb0]
  intro e
  apply h
  have hm := Int.mul_tdiv_add_tmod (wrap64 (a * b)) b
  rw [e, Int.mul_comm b a] at hm
  have hr : ((wrap64 (a * b)).tmod b).natAbs < b.natAbs := by
    rw [Int.natAbs_tmod]; exact Nat.mod_lt _ (by omega)
  obtain ⟨b1, b2⟩ := hb
  have hw := w64_I (a * b)
  obtain ⟨w1, w2⟩ := hw
  generalize hx : a * b = x at *
  generalize hy : (wrap64 x).tmod b = r at *
  have hq : wrap64 x = x ∨ 18446744073709551616 ≤ wrap64 x - x ∨ wrap64 x - x ≤ -18446744073709551616 := by unfold wrap64; omega
  rcases hq with hq | hq | hq
  · rw [hq] at w1 w2; exact ⟨w1, w2⟩
  · omega
  · omega

theorem times_zero {a b : Int} {w : World} (h : a * b = 0) : TimesPost a b w (.returned (.tuple #[.int .i64 0, .bool true])) w := ⟨fun _ => by rw [h], fun g => absurd ⟨by omega, by omega⟩ g, rfl⟩
theorem i64_w (x : Int) : IntKind.i64.wrap x = wrap64 x := by rw [IntKind.wrap_i64]; unfold wrap64; rfl
theorem times_l {b : Int} (hb : I64 b) (w : World) : TimesPost (-1) b w (.returned (.tuple #[.int .i64 (wrap64 (IntKind.u64.wrap (IntKind.u64.wrap (-1) * IntKind.u64.wrap b))), .bool (b != -9223372036854775808)])) w := by
  rw [wrap_mul]
  obtain ⟨b1, b2⟩ := hb
  refine ⟨fun h => ?_, fun h => ?_, rfl⟩
  · have e : (b != -9223372036854775808) = true := by obtain ⟨h1, h2⟩ := h; rw [bne_iff_ne]; omega
    rw [wrap_mul_in h, e]
  · have e : (b != -9223372036854775808) = false := by unfold I64 at h; simp; omega
    rw [e]; exact ⟨_, rfl⟩
theorem times_r {a : Int} (ha : I64 a) (w : World) : TimesPost a (-1) w (.returned (.tuple #[.int .i64 (wrap64 (IntKind.u64.wrap (IntKind.u64.wrap a * IntKind.u64.wrap (-1)))), .bool (a != -9223372036854775808)])) w := by
  rw [wrap_mul]
  obtain ⟨b1, b2⟩ := ha
  refine ⟨fun h => ?_, fun h => ?_, rfl⟩
  · have e : (a != -9223372036854775808) = true := by obtain ⟨h1, h2⟩ := h; rw [bne_iff_ne]; omega
    rw [wrap_mul_in h, e]
  · have e : (a != -9223372036854775808) = false := by unfold I64 at h; simp; omega
    rw [e]; exact ⟨_, rfl⟩
theorem times_d {a b : Int} (ha : I64 a) (hb : I64 b) (b0 : b ≠ 0) (b1 : b ≠ -1) (w : World) : TimesPost a b w (.returned (.tuple #[.int .i64 (wrap64 (IntKind.u64.wrap (IntKind.u64.wrap a * IntKind.u64.wrap b))), .bool (IntKind.i64.wrap ((wrap64 (IntKind.u64.wrap (IntKind.u64.wrap a * IntKind.u64.wrap b))).tdiv b) == a)])) w := by
  rw [wrap_mul, i64_w]
  refine ⟨fun h => ?_, fun h => ?_, rfl⟩
  · have e : (wrap64 ((wrap64 (a * b)).tdiv b) == a) = true := by rw [beq_iff_eq]; exact tdiv_in b0 h ha
    rw [e, wrap_mul_in h]
  · have e : (wrap64 ((wrap64 (a * b)).tdiv b) == a) = false := by rw [beq_eq_false_iff_ne]; exact tdiv_out b0 b1 hb h
    rw [e]; exact ⟨_, rfl⟩
theorem rtimes_any (a b : Int) (ha : I64 a) (hb : I64 b) (w : World) :
    Calls Try.prog 49 #[.int .i64 a, .int .i64 b] w fun e w' => ∃ w0, TimesPost a b w e w0 ∧ Below w.heap.size w w' := by
  by_cases a0 : a = 0
  · subst a0
    go_enter Try.func49, Try.ntmps49
    go_wp2
    go_ret2
    exact ⟨w, times_zero (Int.zero_mul b), Below.refl _ _⟩
  by_cases b0 : b = 0
  · subst b0
    have fa : (a == 0) = false := by simpa using a0
    go_enter Try.func49, Try.ntmps49
    go_wp2
    go_ret2
    exact ⟨w, times_zero (Int.mul_zero a), Below.refl _ _⟩
  have fa : (a == 0) = false := by simpa using a0
  have fb : (b == 0) = false := by simpa using b0
  by_cases a1 : a = -1
  · subst a1
    go_enter Try.func49, Try.ntmps49
    go_wp2
    go_ret2
    exact ⟨w, times_l hb w, Below.refl _ _⟩
  by_cases b1 : b = -1
  · subst b1
    have fa1 : (a == -1) = false := by simpa using a1
    go_enter Try.func49, Try.ntmps49
    go_wp2
    go_ret2
    exact ⟨w, times_r ha w, Below.refl _ _⟩
  have fa1 : (a == -1) = false := by simpa using a1
  have fb1 : (b == -1) = false := by simpa using b1
  have TD := Lib.hid (times_d ha hb b0 b1 w)
  clear b1 a0 a1 ha hb
  go_enter Try.func49, Try.ntmps49
  go_wp2
  refine wp_region_here 8 [(0, false), (1, false), (2, false), (3, false), (4, false), (5, false), (6, false), (7, false)] (fun _ => .cells #[] 0) (by kernel_rfl) (by kernel_rfl) ?_
  repeat (first | (refine wpP_q rfl rfl rfl ?_; apply Exists.intro; refine ⟨fun w' hw' => ?_, fun K hK => ?_⟩; (focus (skip; go_simp; first | exact quiet_value | fail)); simp only [Act.put, List.setIfInBounds_toArray, List.set_cons_zero, List.set_cons_succ]; refine hK.out _ ?_; clear hK K) | (refine wpP_skip rfl rfl rfl (fun K hK => ?_); simp only [Act.put, List.setIfInBounds_toArray, List.set_cons_zero, List.set_cons_succ]; refine hK.out _ ?_; clear hK K))
  refine wpP_nil ?_
  intro w1 HB
  simp only [List.drop_succ_cons, List.drop_zero]
  go_wp2_with fail
  go_ret2
  exact ⟨w, TD.out, HB⟩

/-! ### Do -/
theorem rdo_bad (op a b : Int) (x y : Bool) (h : op < 1 ∨ 3 < op) (w : World) :
    Calls Try.prog 23 #[.int .i64 op, .agg #[.int .i64 a, .bool x], .agg #[.int .i64 b, .bool y]] w fun e w' => e = .returned (.tuple #[.agg #[.int .i64 0, .bool false], .int .i64 2]) ∧ Below w.heap.size w w' := by
  rcases h with h | h
  · go_enter Try.func23, Try.ntmps23
    go_wp2
    exact bodyPost_ret (v := .tuple #[.agg #[.int .i64 0, .bool false], .int .i64 2]) (by simp [results, Try.results23, go_sem]) rfl ⟨rfl, (((Below.refl _ _).alloc (Nat.le_refl _) _).alloc (by simp) _).alloc (by simp; omega) _⟩
  · have h' : ¬ op < 1 := by omega
    go_enter Try.func23, Try.ntmps23
    go_wp2
    exact bodyPost_ret (v := .tuple #[.agg #[.int .i64 0, .bool false], .int .i64 2]) (by simp [results, Try.results23, go_sem]) rfl ⟨rfl, (((Below.refl _ _).alloc (Nat.le_refl _) _).alloc (by simp) _).alloc (by simp; omega) _⟩
theorem rdo_over (op a b : Int) (x y : Bool) (h1 : 1 ≤ op) (h2 : op ≤ 3) (ha : x = false ∨ a = 0) (hb : y = false ∨ b = 0) (h : x = true ∨ y = true) (w : World) :
    Calls Try.prog 23 #[.int .i64 op, .agg #[.int .i64 a, .bool x], .agg #[.int .i64 b, .bool y]] w fun e w' => e = .returned (.tuple #[.agg #[.int .i64 0, .bool true], .int .i64 0]) ∧ Below w.heap.size w w' := by
  have HB : Below (doW w a b x y).heap.size (doW w a b x y) (doW w a b x y) := Below.refl _ _
  have CA := Lib.hid (fun W => rcheck_ok a x ha W)
  have CB := Lib.hid (fun W => rcheck_ok b y hb W)
  clear ha hb
  cases x
  · obtain rfl : y = true := by simpa using h
    clear h
    go_enter Try.func23, Try.ntmps23
    go_wp2_with fail; refine (CA.out _).mono ?_; rintro e w1 ⟨rfl, hb1⟩; replace HB := HB.trans (hb1.mono HB.size); clear hb1; have K := do_keep HB; unfold DoKeep at K; obtain ⟨k1, k2, k3, k4, k5, k6, k7, k8, k9⟩ := K
    go_wp2_with fail; refine (CB.out _).mono ?_; rintro e w1 ⟨rfl, hb1⟩; replace HB := HB.trans (hb1.mono HB.size); clear hb1; have K := do_keep HB; unfold DoKeep at K; obtain ⟨k1, k2, k3, k4, k5, k6, k7, k8, k9⟩ := K
    go_wp2_with fail; refine (rover_any _).mono ?_; rintro e w1 ⟨rfl, hb1⟩; replace HB := HB.trans (hb1.mono HB.size); clear hb1; have K := do_keep HB; unfold DoKeep at K; obtain ⟨k1, k2, k3, k4, k5, k6, k7, k8, k9⟩ := K
    go_wp2_with fail
    refine bodyPost_ret (v := .tuple #[.agg #[.int .i64 0, .bool true], .int .i64 0]) (by simp only [results, Try.results23]; go_simp) rfl ⟨rfl, ?_⟩; exact ((do_base HB).setCell (by simp; omega) _).setCell (by simp; omega) _
  · clear h
    go_enter Try.func23, Try.ntmps23
    go_wp2_with fail; refine (CA.out _).mono ?_; rintro e w1 ⟨rfl, hb1⟩; replace HB := HB.trans (hb1.mono HB.size); clear hb1; have K := do_keep HB; unfold DoKeep at K; obtain ⟨k1, k2, k3, k4, k5, k6, k7, k8, k9⟩ := K
    go_wp2_with fail; refine (CB.out _).mono ?_; rintro e w1 ⟨rfl, hb1⟩; replace HB := HB.trans (hb1.mono HB.size); clear hb1; have K := do_keep HB; unfold DoKeep at K; obtain ⟨k1, k2, k3, k4, k5, k6, k7, k8, k9⟩ := K
    go_wp2_with fail; refine (rover_any _).mono ?_; rintro e w1 ⟨rfl, hb1⟩; replace HB := HB.trans (hb1.mono HB.size); clear hb1; have K := do_keep HB; unfold DoKeep at K; obtain ⟨k1, k2, k3, k4, k5, k6, k7, k8, k9⟩ := K
    go_wp2_with fail
    refine bodyPost_ret (v := .tuple #[.agg #[.int .i64 0, .bool true], .int .i64 0]) (by simp only [results, Try.results23]; go_simp) rfl ⟨rfl, ?_⟩; exact ((do_base HB).setCell (by simp; omega) _).setCell (by simp; omega) _
theorem rdo_bada (op a b : Int) (y : Bool) (h1 : 1 ≤ op) (h2 : op ≤ 3) (ha : a ≠ 0) (w : World) :
    Calls Try.prog 23 #[.int .i64 op, .agg #[.int .i64 a, .bool true], .agg #[.int .i64 b, .bool y]] w fun e w' => e = .returned (.tuple #[.agg #[.int .i64 0, .bool false], .int .i64 2]) ∧ Below w.heap.size w w' := by
  have HB : Below (doW w a b true y).heap.size (doW w a b true y) (doW w a b true y) := Below.refl _ _
  have CA := Lib.hid (fun W => rcheck_bad a ha W)
  clear ha
  go_enter Try.func23, Try.ntmps23
  go_wp2_with fail; refine (CA.out _).mono ?_; rintro e w1 ⟨rfl, hb1⟩; replace HB := HB.trans (hb1.mono HB.size); clear hb1; have K := do_keep HB; unfold DoKeep at K; obtain ⟨k1, k2, k3, k4, k5, k6, k7, k8, k9⟩ := K
  go_wp2_with fail
  refine bodyPost_ret (v := .tuple #[.agg #[.int .i64 0, .bool false], .int .i64 2]) (by simp only [results, Try.results23]; go_simp) rfl ⟨rfl, ?_⟩; exact ((do_base HB).setCell (by simp; omega) _).setCell (by simp; omega) _
theorem rdo_badb (op a b : Int) (x : Bool) (h1 : 1 ≤ op) (h2 : op ≤ 3) (ha : x = false ∨ a = 0) (hb : b ≠ 0) (w : World) :
    Calls Try.prog 23 #[.int .i64 op, .agg #[.int .i64 a, .bool x], .agg #[.int .i64 b, .bool true]] w fun e w' => e = .returned (.tuple #[.agg #[.int .i64 0, .bool false], .int .i64 2]) ∧ Below w.heap.size w w' := by
  have HB : Below (doW w a b x true).heap.size (doW w a b x true) (doW w a b x true) := Below.refl _ _
  have CA := Lib.hid (fun W => rcheck_ok a x ha W)
  have CB := Lib.hid (fun W => rcheck_bad b hb W)
  clear ha hb
  go_enter Try.func23, Try.ntmps23
  go_wp2_with fail; refine (CA.out _).mono ?_; rintro e w1 ⟨rfl, hb1⟩; replace HB := HB.trans (hb1.mono HB.size); clear hb1; have K := do_keep HB; unfold DoKeep at K; obtain ⟨k1, k2, k3, k4, k5, k6, k7, k8, k9⟩ := K
  go_wp2_with fail; refine (CB.out _).mono ?_; rintro e w1 ⟨rfl, hb1⟩; replace HB := HB.trans (hb1.mono HB.size); clear hb1; have K := do_keep HB; unfold DoKeep at K; obtain ⟨k1, k2, k3, k4, k5, k6, k7, k8, k9⟩ := K
  go_wp2_with fail
  refine bodyPost_ret (v := .tuple #[.agg #[.int .i64 0, .bool false], .int .i64 2]) (by simp only [results, Try.results23]; go_simp) rfl ⟨rfl, ?_⟩; exact ((do_base HB).setCell (by simp; omega) _).setCell (by simp; omega) _
set_option maxRecDepth 100000 in
set_option maxHeartbeats 4000000 in
theorem rdo_add (a b : Int) (ha : I64 a) (hb : I64 b) (w : World) :
    Calls Try.prog 23 #[.int .i64 1, .agg #[.int .i64 a, .bool false], .agg #[.int .i64 b, .bool false]] w (DoPost (a + b) w) := by
  obtain ⟨a1, a2⟩ := ha
  obtain ⟨b1, b2⟩ := hb
  have hs : b < 0 ∨ (0 ≤ b ∧ b ≤ 0) ∨ 0 < b := by omega
  by_cases hf : I64 (a + b)
  · have HF : Hid (I64 (a + b)) := hf
    obtain ⟨f1, f2⟩ := hf
    rcases hs with hs | ⟨hs, hs'⟩ | hs <;> (
      have HB : Below (doW w a b false false).heap.size (doW w a b false false) (doW w a b false false) := Below.refl _ _; have CA := Lib.hid (fun W => rcheck_ok a false (.inl rfl) W); have CB := Lib.hid (fun W => rcheck_ok b false (.inl rfl) W)
      go_enter Try.func23, Try.ntmps23
      go_wp2_with fail; refine (CA.out _).mono ?_; rintro e w1 ⟨rfl, hb1⟩; replace HB := HB.trans (hb1.mono HB.size); clear hb1; have K := do_keep HB; unfold DoKeep at K; obtain ⟨k1, k2, k3, k4, k5, k6, k7, k8, k9⟩ := K
      go_wp2_with fail; refine (CB.out _).mono ?_; rintro e w1 ⟨rfl, hb1⟩; replace HB := HB.trans (hb1.mono HB.size); clear hb1; have K := do_keep HB; unfold DoKeep at K; obtain ⟨k1, k2, k3, k4, k5, k6, k7, k8, k9⟩ := K
      go_wp2_with fail
      refine wp_region_perm 6 [(0, false), (1, false), (2, false), (3, false), (4, false), (5, false)] (fun _ => .cells #[] 0) (Below (doW w a _ false false).heap.size (doW w a _ false false)) (by kernel_rfl) (by kernel_rfl) (Stab.below _ _ (Nat.le_refl _)) HB.drew ?_; (repeat (first | (refine wpP_q rfl rfl rfl ?_; apply Exists.intro; refine ⟨fun w' hw' => ?_, fun K hK => ?_⟩; (focus ((have K := do_keep hw'; unfold DoKeep at K; obtain ⟨k1, k2, k3, k4, k5, k6, k7, k8, k9⟩ := K); go_simp; first | exact quiet_value | fail)); simp only [Act.put, List.setIfInBounds_toArray, List.set_cons_zero, List.set_cons_succ]; refine hK.out _ ?_; clear hK K) | (refine wpP_skip rfl rfl rfl (fun K hK => ?_); simp only [Act.put, List.setIfInBounds_toArray, List.set_cons_zero, List.set_cons_succ]; refine hK.out _ ?_; clear hK K))); refine wpP_nil ?_; clear k1 k2 k3 k4 k5 k6 k7 k8 k9 HB; intro w1 HB; have K := do_keep HB; unfold DoKeep at K; obtain ⟨k1, k2, k3, k4, k5, k6, k7, k8, k9⟩ := K; simp only [List.drop_succ_cons, List.drop_zero]
      go_wp2_with fail; refine (rof_any _ _).mono ?_; rintro e w1 ⟨rfl, hb1⟩; replace HB := HB.trans (hb1.mono HB.size); clear hb1; have K := do_keep HB; unfold DoKeep at K; obtain ⟨k1, k2, k3, k4, k5, k6, k7, k8, k9⟩ := K
      go_wp2_with fail
      refine bodyPost_ret (v := .tuple #[.agg #[.int .i64 _, .bool false], .int .i64 0]) (by simp only [results, Try.results23]; go_simp) rfl (DoPost.yes HF.out ?_); exact ((do_base HB).setCell (by simp; omega) _).setCell (by simp; omega) _)
  · have HF : Hid (¬ I64 (a + b)) := hf
    rcases hs with hs | ⟨hs, hs'⟩ | hs
    · have f : a < -9223372036854775808 - b := by unfold I64 at hf; omega
      clear hf
      have HB : Below (doW w a b false false).heap.size (doW w a b false false) (doW w a b false false) := Below.refl _ _; have CA := Lib.hid (fun W => rcheck_ok a false (.inl rfl) W); have CB := Lib.hid (fun W => rcheck_ok b false (.inl rfl) W)
      go_enter Try.func23, Try.ntmps23
      go_wp2_with fail; refine (CA.out _).mono ?_; rintro e w1 ⟨rfl, hb1⟩; replace HB := HB.trans (hb1.mono HB.size); clear hb1; have K := do_keep HB; unfold DoKeep at K; obtain ⟨k1, k2, k3, k4, k5, k6, k7, k8, k9⟩ := K
      go_wp2_with fail; refine (CB.out _).mono ?_; rintro e w1 ⟨rfl, hb1⟩; replace HB := HB.trans (hb1.mono HB.size); clear hb1; have K := do_keep HB; unfold DoKeep at K; obtain ⟨k1, k2, k3, k4, k5, k6, k7, k8, k9⟩ := K
      go_wp2_with fail
      refine wp_region_perm 6 [(0, false), (1, false), (2, false), (3, false), (4, false), (5, false)] (fun _ => .cells #[] 0) (Below (doW w a b false false).heap.size (doW w a b false false)) (by kernel_rfl) (by kernel_rfl) (Stab.below _ _ (Nat.le_refl _)) HB.drew ?_; (repeat (first | (refine wpP_q rfl rfl rfl ?_; apply Exists.intro; refine ⟨fun w' hw' => ?_, fun K hK => ?_⟩; (focus ((have K := do_keep hw'; unfold DoKeep at K; obtain ⟨k1, k2, k3, k4, k5, k6, k7, k8, k9⟩ := K); go_simp; first | exact quiet_value | fail)); simp only [Act.put, List.setIfInBounds_toArray, List.set_cons_zero, List.set_cons_succ]; refine hK.out _ ?_; clear hK K) | (refine wpP_skip rfl rfl rfl (fun K hK => ?_); simp only [Act.put, List.setIfInBounds_toArray, List.set_cons_zero, List.set_cons_succ]; refine hK.out _ ?_; clear hK K))); refine wpP_nil ?_; clear k1 k2 k3 k4 k5 k6 k7 k8 k9 HB; intro w1 HB; have K := do_keep HB; unfold DoKeep at K; obtain ⟨k1, k2, k3, k4, k5, k6, k7, k8, k9⟩ := K; simp only [List.drop_succ_cons, List.drop_zero]
      go_wp2_with fail; refine (rover_any _).mono ?_; rintro e w1 ⟨rfl, hb1⟩; replace HB := HB.trans (hb1.mono HB.size); clear hb1; have K := do_keep HB; unfold DoKeep at K; obtain ⟨k1, k2, k3, k4, k5, k6, k7, k8, k9⟩ := K
      go_wp2_with fail
      refine bodyPost_ret (v := .tuple #[.agg #[.int .i64 0, .bool true], .int .i64 0]) (by simp only [results, Try.results23]; go_simp) rfl (DoPost.no HF.out ?_); exact ((do_base HB).setCell (by simp; omega) _).setCell (by simp; omega) _
    · exact absurd (show I64 (a + b) from ⟨by omega, by omega⟩) hf
    · have f : 9223372036854775807 - b < a := by unfold I64 at hf; omega
      clear hf
      have HB : Below (doW w a b false false).heap.size (doW w a b false false) (doW w a b false false) := Below.refl _ _; have CA := Lib.hid (fun W => rcheck_ok a false (.inl rfl) W); have CB := Lib.hid (fun W => rcheck_ok b false (.inl rfl) W)
      go_enter Try.func23, Try.ntmps23
      go_wp2_with fail; refine (CA.out _).mono ?_; rintro e w1 ⟨rfl, hb1⟩; replace HB := HB.trans (hb1.mono HB.size); clear hb1; have K := do_keep HB; unfold DoKeep at K; obtain ⟨k1, k2, k3, k4, k5, k6, k7, k8, k9⟩ := K
      go_wp2_with fail; refine (CB.out _).mono ?_; rintro e w1 ⟨rfl, hb1⟩; replace HB := HB.trans (hb1.mono HB.size); clear hb1; have K := do_keep HB; unfold DoKeep at K; obtain ⟨k1, k2, k3, k4, k5, k6, k7, k8, k9⟩ := K
      go_wp2_with fail
      refine wp_region_perm 6 [(0, false), (1, false), (2, false), (3, false), (4, false), (5, false)] (fun _ => .cells #[] 0) (Below (doW w a b false false).heap.size (doW w a b false false)) (by kernel_rfl) (by kernel_rfl) (Stab.below _ _ (Nat.le_refl _)) HB.drew ?_; (repeat (first | (refine wpP_q rfl rfl rfl ?_; apply Exists.intro; refine ⟨fun w' hw' => ?_, fun K hK => ?_⟩; (focus ((have K := do_keep hw'; unfold DoKeep at K; obtain ⟨k1, k2, k3, k4, k5, k6, k7, k8, k9⟩ := K); go_simp; first | exact quiet_value | fail)); simp only [Act.put, List.setIfInBounds_toArray, List.set_cons_zero, List.set_cons_succ]; refine hK.out _ ?_; clear hK K) | (refine wpP_skip rfl rfl rfl (fun K hK => ?_); simp only [Act.put, List.setIfInBounds_toArray, List.set_cons_zero, List.set_cons_succ]; refine hK.out _ ?_; clear hK K))); refine wpP_nil ?_; clear k1 k2 k3 k4 k5 k6 k7 k8 k9 HB; intro w1 HB; have K := do_keep HB; unfold DoKeep at K; obtain ⟨k1, k2, k3, k4, k5, k6, k7, k8, k9⟩ := K; simp only [List.drop_succ_cons, List.drop_zero]
      go_wp2_with fail; refine (rover_any _).mono ?_; rintro e w1 ⟨rfl, hb1⟩; replace HB := HB.trans (hb1.mono HB.size); clear hb1; have K := do_keep HB; unfold DoKeep at K; obtain ⟨k1, k2, k3, k4, k5, k6, k7, k8, k9⟩ := K
      go_wp2_with fail
      refine bodyPost_ret (v := .tuple #[.agg #[.int .i64 0, .bool true], .int .i64 0]) (by simp only [results, Try.results23]; go_simp) rfl (DoPost.no HF.out ?_); exact ((do_base HB).setCell (by simp; omega) _).setCell (by simp; omega) _
set_option maxRecDepth 100000 in
set_option maxHeartbeats 4000000 in
theorem rdo_sub (a b : Int) (ha : I64 a) (hb : I64 b) (w : World) :
    Calls Try.prog 23 #[.int .i64 2, .agg #[.int .i64 a, .bool false], .agg #[.int .i64 b, .bool false]] w (DoPost (a - b) w) := by
  obtain ⟨a1, a2⟩ := ha
  obtain ⟨b1, b2⟩ := hb
  have hs : b < 0 ∨ (0 ≤ b ∧ b ≤ 0) ∨ 0 < b := by omega
  by_cases hf : I64 (a - b)
  · have HF : Hid (I64 (a - b)) := hf
    obtain ⟨f1, f2⟩ := hf
    rcases hs with hs | ⟨hs, hs'⟩ | hs <;> (
      have HB : Below (doW w a b false false).heap.size (doW w a b false false) (doW w a b false false) := Below.refl _ _; have CA := Lib.hid (fun W => rcheck_ok a false (.inl rfl) W); have CB := Lib.hid (fun W => rcheck_ok b false (.inl rfl) W)
      go_enter Try.func23, Try.ntmps23
      go_wp2_with fail; refine (CA.out _).mono ?_; rintro e w1 ⟨rfl, hb1⟩; replace HB := HB.trans (hb1.mono HB.size); clear hb1; have K := do_keep HB; unfold DoKeep at K; obtain ⟨k1, k2, k3, k4, k5, k6, k7, k8, k9⟩ := K
      go_wp2_with fail; refine (CB.out _).mono ?_; rintro e w1 ⟨rfl, hb1⟩; replace HB := HB.trans (hb1.mono HB.size); clear hb1; have K := do_keep HB; unfold DoKeep at K; obtain ⟨k1, k2, k3, k4, k5, k6, k7, k8, k9⟩ := K
      go_wp2_with fail
      refine wp_region_perm 6 [(0, false), (1, false), (2, false), (3, false), (4, false), (5, false)] (fun _ => .cells #[] 0) (Below (doW w a _ false false).heap.size (doW w a _ false false)) (by kernel_rfl) (by kernel_rfl) (Stab.below _ _ (Nat.le_refl _)) HB.drew ?_; (repeat (first | (refine wpP_q rfl rfl rfl ?_; apply Exists.intro; refine ⟨fun w' hw' => ?_, fun K hK => ?_⟩; (focus ((have K := do_keep hw'; unfold DoKeep at K; obtain ⟨k1, k2, k3, k4, k5, k6, k7, k8, k9⟩ := K); go_simp; first | exact quiet_value | fail)); simp only [Act.put, List.setIfInBounds_toArray, List.set_cons_zero, List.set_cons_succ]; refine hK.out _ ?_; clear hK K) | (refine wpP_skip rfl rfl rfl (fun K hK => ?_); simp only [Act.put, List.setIfInBounds_toArray, List.set_cons_zero, List.set_cons_succ]; refine hK.out _ ?_; clear hK K))); refine wpP_nil ?_; clear k1 k2 k3 k4 k5 k6 k7 k8 k9 HB; intro w1 HB; have K := do_keep HB; unfold DoKeep at K; obtain ⟨k1, k2, k3, k4, k5, k6, k7, k8, k9⟩ := K; simp only [List.drop_succ_cons, List.drop_zero]
      go_wp2_with fail; refine (rof_any _ _).mono ?_; rintro e w1 ⟨rfl, hb1⟩; replace HB := HB.trans (hb1.mono HB.size); clear hb1; have K := do_keep HB; unfold DoKeep at K; obtain ⟨k1, k2, k3, k4, k5, k6, k7, k8, k9⟩ := K
      go_wp2_with fail
      refine bodyPost_ret (v := .tuple #[.agg #[.int .i64 _, .bool false], .int .i64 0]) (by simp only [results, Try.results23]; go_simp) rfl (DoPost.yes HF.out ?_); exact ((do_base HB).setCell (by simp; omega) _).setCell (by simp; omega) _)
  · have HF : Hid (¬ I64 (a - b)) := hf
    rcases hs with hs | ⟨hs, hs'⟩ | hs
    · have f : 9223372036854775807 + b < a := by unfold I64 at hf; omega
      clear hf
      have HB : Below (doW w a b false false).heap.size (doW w a b false false) (doW w a b false false) := Below.refl _ _; have CA := Lib.hid (fun W => rcheck_ok a false (.inl rfl) W); have CB := Lib.hid (fun W => rcheck_ok b false (.inl rfl) W)
      go_enter Try.func23, Try.ntmps23
      go_wp2_with fail; refine (CA.out _).mono ?_; rintro e w1 ⟨rfl, hb1⟩; replace HB := HB.trans (hb1.mono HB.size); clear hb1; have K := do_keep HB; unfold DoKeep at K; obtain ⟨k1, k2, k3, k4, k5, k6, k7, k8, k9⟩ := K
      go_wp2_with fail; refine (CB.out _).mono ?_; rintro e w1 ⟨rfl, hb1⟩; replace HB := HB.trans (hb1.mono HB.size); clear hb1; have K := do_keep HB; unfold DoKeep at K; obtain ⟨k1, k2, k3, k4, k5, k6, k7, k8, k9⟩ := K
      go_wp2_with fail
      refine wp_region_perm 6 [(0, false), (1, false), (2, false), (3, false), (4, false), (5, false)] (fun _ => .cells #[] 0) (Below (doW w a b false false).heap.size (doW w a b false false)) (by kernel_rfl) (by kernel_rfl) (Stab.below _ _ (Nat.le_refl _)) HB.drew ?_; (repeat (first | (refine wpP_q rfl rfl rfl ?_; apply Exists.intro; refine ⟨fun w' hw' => ?_, fun K hK => ?_⟩; (focus ((have K := do_keep hw'; unfold DoKeep at K; obtain ⟨k1, k2, k3, k4, k5, k6, k7, k8, k9⟩ := K); go_simp; first | exact quiet_value | fail)); simp only [Act.put, List.setIfInBounds_toArray, List.set_cons_zero, List.set_cons_succ]; refine hK.out _ ?_; clear hK K) | (refine wpP_skip rfl rfl rfl (fun K hK => ?_); simp only [Act.put, List.setIfInBounds_toArray, List.set_cons_zero, List.set_cons_succ]; refine hK.out _ ?_; clear hK K))); refine wpP_nil ?_; clear k1 k2 k3 k4 k5 k6 k7 k8 k9 HB; intro w1 HB; have K := do_keep HB; unfold DoKeep at K; obtain ⟨k1, k2, k3, k4, k5, k6, k7, k8, k9⟩ := K; simp only [List.drop_succ_cons, List.drop_zero]
      go_wp2_with fail; refine (rover_any _).mono ?_; rintro e w1 ⟨rfl, hb1⟩; replace HB := HB.trans (hb1.mono HB.size); clear hb1; have K := do_keep HB; unfold DoKeep at K; obtain ⟨k1, k2, k3, k4, k5, k6, k7, k8, k9⟩ := K
      go_wp2_with fail
      refine bodyPost_ret (v := .tuple #[.agg #[.int .i64 0, .bool true], .int .i64 0]) (by simp only [results, Try.results23]; go_simp) rfl (DoPost.no HF.out ?_); exact ((do_base HB).setCell (by simp; omega) _).setCell (by simp; omega) _
    · exact absurd (show I64 (a - b) from ⟨by omega, by omega⟩) hf
    · have f : a < -9223372036854775808 + b := by unfold I64 at hf; omega
      clear hf
      have HB : Below (doW w a b false false).heap.size (doW w a b false false) (doW w a b false false) := Below.refl _ _; have CA := Lib.hid (fun W => rcheck_ok a false (.inl rfl) W); have CB := Lib.hid (fun W => rcheck_ok b false (.inl rfl) W)
      go_enter Try.func23, Try.ntmps23
      go_wp2_with fail; refine (CA.out _).mono ?_; rintro e w1 ⟨rfl, hb1⟩; replace HB := HB.trans (hb1.mono HB.size); clear hb1; have K := do_keep HB; unfold DoKeep at K; obtain ⟨k1, k2, k3, k4, k5, k6, k7, k8, k9⟩ := K
      go_wp2_with fail; refine (CB.out _).mono ?_; rintro e w1 ⟨rfl, hb1⟩; replace HB := HB.trans (hb1.mono HB.size); clear hb1; have K := do_keep HB; unfold DoKeep at K; obtain ⟨k1, k2, k3, k4, k5, k6, k7, k8, k9⟩ := K
      go_wp2_with fail
      refine wp_region_perm 6 [(0, false), (1, false), (2, false), (3, false), (4, false), (5, false)] (fun _ => .cells #[] 0) (Below (doW w a b false false).heap.size (doW w a b false false)) (by kernel_rfl) (by kernel_rfl) (Stab.below _ _ (Nat.le_refl _)) HB.drew ?_; (repeat (first | (refine wpP_q rfl rfl rfl ?_; apply Exists.intro; refine ⟨fun w' hw' => ?_, fun K hK => ?_⟩; (focus ((have K := do_keep hw'; unfold DoKeep at K; obtain ⟨k1, k2, k3, k4, k5, k6, k7, k8, k9⟩ := K); go_simp; first | exact quiet_value | fail)); simp only [Act.put, List.setIfInBounds_toArray, List.set_cons_zero, List.set_cons_succ]; refine hK.out _ ?_; clear hK K) | (refine wpP_skip rfl rfl rfl (fun K hK => ?_); simp only [Act.put, List.setIfInBounds_toArray, List.set_cons_zero, List.set_cons_succ]; refine hK.out _ ?_; clear hK K))); refine wpP_nil ?_; clear k1 k2 k3 k4 k5 k6 k7 k8 k9 HB; intro w1 HB; have K := do_keep HB; unfold DoKeep at K; obtain ⟨k1, k2, k3, k4, k5, k6, k7, k8, k9⟩ := K; simp only [List.drop_succ_cons, List.drop_zero]
      go_wp2_with fail; refine (rover_any _).mono ?_; rintro e w1 ⟨rfl, hb1⟩; replace HB := HB.trans (hb1.mono HB.size); clear hb1; have K := do_keep HB; unfold DoKeep at K; obtain ⟨k1, k2, k3, k4, k5, k6, k7, k8, k9⟩ := K
      go_wp2_with fail
      refine bodyPost_ret (v := .tuple #[.agg #[.int .i64 0, .bool true], .int .i64 0]) (by simp only [results, Try.results23]; go_simp) rfl (DoPost.no HF.out ?_); exact ((do_base HB).setCell (by simp; omega) _).setCell (by simp; omega) _
set_option maxRecDepth 100000 in
set_option maxHeartbeats 4000000 in
theorem rdo_mul (a b : Int) (ha : I64 a) (hb : I64 b) (w : World) :
    Calls Try.prog 23 #[.int .i64 3, .agg #[.int .i64 a, .bool false], .agg #[.int .i64 b, .bool false]] w (DoPost (a * b) w) := by
  have HB : Below (doW w a b false false).heap.size (doW w a b false false) (doW w a b false false) := Below.refl _ _; have CA := Lib.hid (fun W => rcheck_ok a false (.inl rfl) W); have CB := Lib.hid (fun W => rcheck_ok b false (.inl rfl) W)
  have CT := Lib.hid (fun W => rtimes_any a b ha hb W)
  clear ha hb
  by_cases hf : I64 (a * b)
  · have HF : Hid (I64 (a * b)) := hf
    clear hf
    go_enter Try.func23, Try.ntmps23
    go_wp2_with fail; refine (CA.out _).mono ?_; rintro e w1 ⟨rfl, hb1⟩; replace HB := HB.trans (hb1.mono HB.size); clear hb1; have K := do_keep HB; unfold DoKeep at K; obtain ⟨k1, k2, k3, k4, k5, k6, k7, k8, k9⟩ := K
    go_wp2_with fail; refine (CB.out _).mono ?_; rintro e w1 ⟨rfl, hb1⟩; replace HB := HB.trans (hb1.mono HB.size); clear hb1; have K := do_keep HB; unfold DoKeep at K; obtain ⟨k1, k2, k3, k4, k5, k6, k7, k8, k9⟩ := K
    go_wp2_with fail
    refine wp_region_perm 6 [(0, false), (1, false), (2, false), (3, false), (4, false), (5, false)] (fun _ => .cells #[] 0) (Below (doW w a b false false).heap.size (doW w a b false false)) (by kernel_rfl) (by kernel_rfl) (Stab.below _ _ (Nat.le_refl _)) HB.drew ?_; (repeat (first | (refine wpP_q rfl rfl rfl ?_; apply Exists.intro; refine ⟨fun w' hw' => ?_, fun K hK => ?_⟩; (focus ((have K := do_keep hw'; unfold DoKeep at K; obtain ⟨k1, k2, k3, k4, k5, k6, k7, k8, k9⟩ := K); go_simp; first | exact quiet_value | fail)); simp only [Act.put, List.setIfInBounds_toArray, List.set_cons_zero, List.set_cons_succ]; refine hK.out _ ?_; clear hK K) | (refine wpP_skip rfl rfl rfl (fun K hK => ?_); simp only [Act.put, List.setIfInBounds_toArray, List.set_cons_zero, List.set_cons_succ]; refine hK.out _ ?_; clear hK K))); refine wpP_nil ?_; clear k1 k2 k3 k4 k5 k6 k7 k8 k9 HB; intro w1 HB; have K := do_keep HB; unfold DoKeep at K; obtain ⟨k1, k2, k3, k4, k5, k6, k7, k8, k9⟩ := K; simp only [List.drop_succ_cons, List.drop_zero]
    go_wp2_with fail
    refine (CT.out _).mono ?_
    rintro e w1 ⟨w0, ⟨h1, h2, h3⟩, hb1⟩
    obtain rfl := h1 HF.out
    clear h2 h3 h1
    replace HB := HB.trans (hb1.mono HB.size); clear hb1
    go_wp2_with fail; refine (rof_any _ _).mono ?_; rintro e w1 ⟨rfl, hb1⟩; replace HB := HB.trans (hb1.mono HB.size); clear hb1; have K := do_keep HB; unfold DoKeep at K; obtain ⟨k1, k2, k3, k4, k5, k6, k7, k8, k9⟩ := K
    go_wp2_with fail
    refine bodyPost_ret (v := .tuple #[.agg #[.int .i64 (a * b), .bool false], .int .i64 0]) (by simp only [results, Try.results23]; go_simp) rfl (DoPost.yes HF.out ?_); exact ((do_base HB).setCell (by simp; omega) _).setCell (by simp; omega) _
  · have HF : Hid (¬ I64 (a * b)) := hf
    clear hf
    go_enter Try.func23, Try.ntmps23
    go_wp2_with fail; refine (CA.out _).mono ?_; rintro e w1 ⟨rfl, hb1⟩; replace HB := HB.trans (hb1.mono HB.size); clear hb1; have K := do_keep HB; unfold DoKeep at K; obtain ⟨k1, k2, k3, k4, k5, k6, k7, k8, k9⟩ := K
    go_wp2_with fail; refine (CB.out _).mono ?_; rintro e w1 ⟨rfl, hb1⟩; replace HB := HB.trans (hb1.mono HB.size); clear hb1; have K := do_keep HB; unfold DoKeep at K; obtain ⟨k1, k2, k3, k4, k5, k6, k7, k8, k9⟩ := K
    go_wp2_with fail
    refine wp_region_perm 6 [(0, false), (1, false), (2, false), (3, false), (4, false), (5, false)] (fun _ => .cells #[] 0) (Below (doW w a b false false).heap.size (doW w a b false false)) (by kernel_rfl) (by kernel_rfl) (Stab.below _ _ (Nat.le_refl _)) HB.drew ?_; (repeat (first | (refine wpP_q rfl rfl rfl ?_; apply Exists.intro; refine ⟨fun w' hw' => ?_, fun K hK => ?_⟩; (focus ((have K := do_keep hw'; unfold DoKeep at K; obtain ⟨k1, k2, k3, k4, k5, k6, k7, k8, k9⟩ := K); go_simp; first | exact quiet_value | fail)); simp only [Act.put, List.setIfInBounds_toArray, List.set_cons_zero, List.set_cons_succ]; refine hK.out _ ?_; clear hK K) | (refine wpP_skip rfl rfl rfl (fun K hK => ?_); simp only [Act.put, List.setIfInBounds_toArray, List.set_cons_zero, List.set_cons_succ]; refine hK.out _ ?_; clear hK K))); refine wpP_nil ?_; clear k1 k2 k3 k4 k5 k6 k7 k8 k9 HB; intro w1 HB; have K := do_keep HB; unfold DoKeep at K; obtain ⟨k1, k2, k3, k4, k5, k6, k7, k8, k9⟩ := K; simp only [List.drop_succ_cons, List.drop_zero]
    go_wp2_with fail
    refine (CT.out _).mono ?_
    rintro e w1 ⟨w0, ⟨h1, h2, h3⟩, hb1⟩
    obtain ⟨m, rfl⟩ := h2 HF.out
    clear h2 h3 h1
    replace HB := HB.trans (hb1.mono HB.size); clear hb1
    go_wp2_with fail; refine (rover_any _).mono ?_; rintro e w1 ⟨rfl, hb1⟩; replace HB := HB.trans (hb1.mono HB.size); clear hb1; have K := do_keep HB; unfold DoKeep at K; obtain ⟨k1, k2, k3, k4, k5, k6, k7, k8, k9⟩ := K
    go_wp2_with fail
    refine bodyPost_ret (v := .tuple #[.agg #[.int .i64 0, .bool true], .int .i64 0]) (by simp only [results, Try.results23]; go_simp) rfl (DoPost.no HF.out ?_); exact ((do_base HB).setCell (by simp; omega) _).setCell (by simp; omega) _

/-! ### Is -/
theorem ris_bad (op a n : Int) (x : Bool) (h : op < 4 ∨ 9 < op) (w : World) :
    Calls Try.prog 25 #[.int .i64 op, .agg #[.int .i64 a, .bool x], .int .i64 n] w fun e w' => e = .returned (.tuple #[.bool false, .int .i64 2]) ∧ Below w.heap.size w w' := by
  rcases h with h | h
  · go_enter Try.func25, Try.ntmps25
    go_wp2_with fail
    go_ret2
    exact ⟨rfl, below_alloc (Below.refl _ _) _⟩
  · have h' : ¬ op < 4 := by omega
    go_enter Try.func25, Try.ntmps25
    go_wp2_with fail
    go_ret2
    exact ⟨rfl, below_alloc (Below.refl _ _) _⟩
theorem ris_badv (op a n : Int) (h1 : 4 ≤ op) (h2 : op ≤ 9) (ha : a ≠ 0) (w : World) :
    Calls Try.prog 25 #[.int .i64 op, .agg #[.int .i64 a, .bool true], .int .i64 n] w fun e w' => e = .returned (.tuple #[.bool false, .int .i64 2]) ∧ Below w.heap.size w w' := by
  have HB := Below.refl (boxes w [Obj.cells #[.int .i64 (a), .bool true] 25]).heap.size (boxes w [Obj.cells #[.int .i64 (a), .bool true] 25])
  have C := Lib.hid (fun W => rcheck_bad a ha W)
  clear ha
  go_enter Try.func25, Try.ntmps25; go_wp2_with fail; refine (C.out _).mono ?_; rintro e w1 ⟨rfl, hb1⟩; replace HB := HB.trans (hb1.mono HB.size); clear hb1
  go_wp2_with fail
  go_ret2
  exact ⟨rfl, box_base HB⟩
theorem ris_over (op n : Int) (h1 : 4 ≤ op) (h2 : op ≤ 9) (w : World) :
    Calls Try.prog 25 #[.int .i64 op, .agg #[.int .i64 0, .bool true], .int .i64 n] w fun e w' => e = .returned (.tuple #[.bool false, .int .i64 0]) ∧ Below w.heap.size w w' := by
  have HB := Below.refl (boxes w [Obj.cells #[.int .i64 (0), .bool true] 25]).heap.size (boxes w [Obj.cells #[.int .i64 (0), .bool true] 25])
  have C := Lib.hid (fun W => rcheck_ok 0 true (.inr rfl) W)
  go_enter Try.func25, Try.ntmps25; go_wp2_with fail; refine (C.out _).mono ?_; rintro e w1 ⟨rfl, hb1⟩; replace HB := HB.trans (hb1.mono HB.size); clear hb1
  have k1 : (w1).cell? ⟨w.heap.size, 1, none⟩ = some (.bool true) := box_cell HB 0 1 rfl rfl _ rfl
  go_wp2_with fail
  go_ret2
  exact ⟨rfl, box_base HB⟩
def risV (op a n : Int) : Bool := if op = 4 then decide (a < n) else if op = 5 then decide (a ≤ n) else if op = 6 then decide (n < a) else if op = 7 then decide (n ≤ a) else if op = 8 then (a == n) else (a != n)
theorem ris_num (op a n : Int) (h1 : 4 ≤ op) (h2 : op ≤ 9) (w : World) :
    Calls Try.prog 25 #[.int .i64 op, .agg #[.int .i64 a, .bool false], .int .i64 n] w fun e w' => e = .returned (.tuple #[.bool (risV op a n), .int .i64 0]) ∧ Below w.heap.size w w' := by
  have HB := Below.refl (boxes w [Obj.cells #[.int .i64 (a), .bool false] 25]).heap.size (boxes w [Obj.cells #[.int .i64 (a), .bool false] 25])
  have C := Lib.hid (fun W => rcheck_ok a false (.inl rfl) W)
  have hop : op = 4 ∨ op = 5 ∨ op = 6 ∨ op = 7 ∨ op = 8 ∨ op = 9 := by omega
  rcases hop with rfl | rfl | rfl | rfl | rfl | rfl <;> (
    clear h1 h2
    go_enter Try.func25, Try.ntmps25; go_wp2_with fail; refine (C.out _).mono ?_; rintro e w1 ⟨rfl, hb1⟩; replace HB := HB.trans (hb1.mono HB.size); clear hb1
    have k1 : (w1).cell? ⟨w.heap.size, 1, none⟩ = some (.bool false) := box_cell HB 0 1 rfl rfl _ rfl
    have k2 : (w1).cell? ⟨w.heap.size, 0, none⟩ = some (.int .i64 a) := box_cell HB 0 0 rfl rfl _ rfl
    go_wp2_with fail
    go_ret2
    exact ⟨rfl, box_base HB⟩)
end Go.Proofs.Ytfiinceogenlmaa
