/- NumberCalls: for every input the law returns true, and its arguments read as they did. No condition. -/
import Derived.Test.YtfiinceogenlmaaFrame
import Derived.Test.YtfiinceogenlmaaRefDo
import Derived.Test.YtfiinceogenlmaaIs0
namespace Go.Proofs.Ytfiinceogenlmaa
open Go.ChangeShapes Go.WideShapes Go.ChangeAt Go.RowKit Go.Joins
theorem DoPost.one {r : Int} {w : World} {e : Ending} {w' : World} (h : DoPost r w e w') : e = .returned (.tuple #[.agg #[.int .i64 (if I64 r then r else 0), .bool !(decide (I64 r))], .int .i64 0]) ∧ Below w.heap.size w w' := by
  obtain ⟨h1, h2, h3⟩ := h
  refine ⟨?_, h3⟩
  by_cases hf : I64 r
  · rw [h1 hf]; simp [hf]
  · rw [h2 hf]; simp [hf]
/-- Both answers of Do are one. -/
theorem do_pair (op a b : Int) (x y : Bool) (ha : I64 a) (hb : I64 b) : ∃ (n : Int) (o : Bool) (r : Int),
    (∀ w : World, Calls Try.prog 16 #[.int .i64 op, .agg #[.int .i64 (a), .bool x], .agg #[.int .i64 (b), .bool y]] w fun e w' => e = .returned (.tuple #[.agg #[.int .i64 (n), .bool o], .int .i64 r]) ∧ Below w.heap.size w w') ∧
    (∀ w : World, Calls Try.prog 23 #[.int .i64 op, .agg #[.int .i64 (a), .bool x], .agg #[.int .i64 (b), .bool y]] w fun e w' => e = .returned (.tuple #[.agg #[.int .i64 (n), .bool o], .int .i64 r]) ∧ Below w.heap.size w w') := by
  by_cases h0 : op < 1 ∨ 3 < op
  · exact ⟨0, false, 2, fun w => do_bad op a b x y h0 w, fun w => rdo_bad op a b x y h0 w⟩
  have h1 : 1 ≤ op := by omega
  have h2 : op ≤ 3 := by omega
  by_cases ba : x = true ∧ a ≠ 0
  · obtain ⟨rfl, ba⟩ := ba
    exact ⟨0, false, 2, fun w => do_bada op a b y h1 h2 ba w, fun w => rdo_bada op a b y h1 h2 ba w⟩
  have va : x = false ∨ a = 0 := by cases x <;> simp_all
  by_cases bb : y = true ∧ b ≠ 0
  · obtain ⟨rfl, bb⟩ := bb
    exact ⟨0, false, 2, fun w => do_badb op a b x h1 h2 va bb w, fun w => rdo_badb op a b x h1 h2 va bb w⟩
  have vb : y = false ∨ b = 0 := by cases y <;> simp_all
  by_cases ho : x = true ∨ y = true
  · exact ⟨0, true, 0, fun w => do_over op a b x y h1 h2 va vb ho w, fun w => rdo_over op a b x y h1 h2 va vb ho w⟩
  obtain ⟨rfl, rfl⟩ : x = false ∧ y = false := by cases x <;> cases y <;> simp_all
  have hop : op = 1 ∨ op = 2 ∨ op = 3 := by omega
  rcases hop with rfl | rfl | rfl
  · exact ⟨_, _, _, fun w => (do_add a b ha hb w).mono fun e w' h => h.one, fun w => (rdo_add a b ha hb w).mono fun e w' h => h.one⟩
  · exact ⟨_, _, _, fun w => (do_sub a b ha hb w).mono fun e w' h => h.one, fun w => (rdo_sub a b ha hb w).mono fun e w' h => h.one⟩
  · exact ⟨_, _, _, fun w => (do_mul a b ha hb w).mono fun e w' h => h.one, fun w => (rdo_mul a b ha hb w).mono fun e w' h => h.one⟩
theorem is_pair (op a n : Int) (x : Bool) : ∃ (q : Bool) (r : Int),
    (∀ w : World, Calls Try.prog 24 #[.int .i64 op, .agg #[.int .i64 (a), .bool x], .int .i64 n] w fun e w' => e = .returned (.tuple #[.bool q, .int .i64 r]) ∧ Below w.heap.size w w') ∧
    (∀ w : World, Calls Try.prog 25 #[.int .i64 op, .agg #[.int .i64 (a), .bool x], .int .i64 n] w fun e w' => e = .returned (.tuple #[.bool q, .int .i64 r]) ∧ Below w.heap.size w w') := by
  by_cases h0 : op < 4 ∨ 9 < op
  · exact ⟨false, 2, fun w => is_bad op a n x h0 w, fun w => ris_bad op a n x h0 w⟩
  have h1 : 4 ≤ op := by omega
  have h2 : op ≤ 9 := by omega
  cases x
  · exact ⟨isV op a n, 0, fun w => is_num op a n h1 h2 w, fun w => ris_num op a n h1 h2 w⟩
  · by_cases ha : a = 0
    · subst ha; exact ⟨false, 0, fun w => is_over op n h1 h2 w, fun w => ris_over op n h1 h2 w⟩
    · exact ⟨false, 2, fun w => is_badv op a n h1 h2 ha w, fun w => ris_badv op a n h1 h2 ha w⟩
theorem check_pair (a : Int) (x : Bool) : ∃ r : Int,
    (∀ w : World, Calls Try.prog 11 #[.agg #[.int .i64 (a), .bool x]] w fun e w' => e = .returned (.int .i64 r) ∧ Below w.heap.size w w') ∧
    (∀ w : World, Calls Try.prog 26 #[.agg #[.int .i64 (a), .bool x]] w fun e w' => e = .returned (.int .i64 r) ∧ Below w.heap.size w w') := by
  by_cases h : x = true ∧ a ≠ 0
  · obtain ⟨rfl, h⟩ := h
    exact ⟨2, fun w => check_bad a h w, fun w => rcheck_bad a h w⟩
  · have h' : x = false ∨ a = 0 := by cases x <;> simp_all
    exact ⟨0, fun w => check_ok a x h' w, fun w => rcheck_ok a x h' w⟩

set_option maxHeartbeats 4000000 in
theorem calls_any (op a b n : Int) (x y : Bool) (ha : I64 a) (hb : I64 b) (w : World) :
    Calls Try.prog 6 #[.int .i64 op, .agg #[.int .i64 (a), .bool x], .agg #[.int .i64 (b), .bool y], .int .i64 n] w fun e w' => e = .returned (.bool true) ∧ Below w.heap.size w w' := by
  have HB := Below.refl (boxes w [Obj.cells #[.int .i64 (a), .bool x] 25, Obj.cells #[.int .i64 (b), .bool y] 25]).heap.size (boxes w [Obj.cells #[.int .i64 (a), .bool x] 25, Obj.cells #[.int .i64 (b), .bool y] 25])
  obtain ⟨dn, do2, dr, D1, D2⟩ := do_pair op a b x y ha hb
  obtain ⟨iq, ir, I1, I2⟩ := is_pair op a n x
  obtain ⟨cr, E1, E2⟩ := check_pair a x
  have D1 := Lib.hid D1
  have D2 := Lib.hid D2
  have I1 := Lib.hid I1
  have I2 := Lib.hid I2
  have E1 := Lib.hid E1
  have E2 := Lib.hid E2
  have O1 := Lib.hid (fun W => of_any n W)
  have O2 := Lib.hid (fun W => rof_any n W)
  clear ha hb
  go_enter Try.func6, Try.ntmps6
  go_wp2_with fail; refine (lives_any _).mono ?_; rintro e w1 ⟨rfl, hb1⟩; replace HB := HB.trans (hb1.mono HB.size); clear hb1
  have k1 : (w1).cell? ⟨w.heap.size, 0, none⟩ = some (.int .i64 a) := box_cell HB 0 0 rfl rfl _ rfl; have k2 : (w1).cell? ⟨w.heap.size, 1, none⟩ = some (.bool x) := box_cell HB 0 1 rfl rfl _ rfl; have k3 : (w1).cell? ⟨w.heap.size + 1, 0, none⟩ = some (.int .i64 b) := box_cell HB 1 0 rfl rfl _ rfl; have k4 : (w1).cell? ⟨w.heap.size + 1, 1, none⟩ = some (.bool y) := box_cell HB 1 1 rfl rfl _ rfl
  go_wp2_with fail
  refine (D1.out _).mono ?_; rintro e w2 ⟨rfl, hb1⟩; replace HB := HB.trans (hb1.mono HB.size); clear hb1
  clear k1 k2 k3 k4
  have HBa := HB.trans ((Below.refl _ _).alloc HB.size (Obj.cells #[.int .i64 (dn), .bool do2] 25))
  have k1 : (w2.alloc (Obj.cells #[.int .i64 (dn), .bool do2] 25)).cell? ⟨w.heap.size, 0, none⟩ = some (.int .i64 a) := box_cell HBa 0 0 rfl rfl _ rfl; have k2 : (w2.alloc (Obj.cells #[.int .i64 (dn), .bool do2] 25)).cell? ⟨w.heap.size, 1, none⟩ = some (.bool x) := box_cell HBa 0 1 rfl rfl _ rfl; have k3 : (w2.alloc (Obj.cells #[.int .i64 (dn), .bool do2] 25)).cell? ⟨w.heap.size + 1, 0, none⟩ = some (.int .i64 b) := box_cell HBa 1 0 rfl rfl _ rfl; have k4 : (w2.alloc (Obj.cells #[.int .i64 (dn), .bool do2] 25)).cell? ⟨w.heap.size + 1, 1, none⟩ = some (.bool y) := box_cell HBa 1 1 rfl rfl _ rfl
  go_wp2_with fail
  have G1 := newB w2 (Obj.cells #[.int .i64 (dn), .bool do2] 25)
  refine (D2.out _).mono ?_; rintro e w3 ⟨rfl, hb1⟩; replace HB := HBa.trans (hb1.mono HBa.size); replace G1 := keepB G1 hb1; clear hb1 HBa
  clear k1 k2 k3 k4
  have HBa := HB.trans ((Below.refl _ _).alloc HB.size (Obj.cells #[.int .i64 (dn), .bool do2] 25))
  have k1 : (w3.alloc (Obj.cells #[.int .i64 (dn), .bool do2] 25)).cell? ⟨w.heap.size, 0, none⟩ = some (.int .i64 a) := box_cell HBa 0 0 rfl rfl _ rfl; have k2 : (w3.alloc (Obj.cells #[.int .i64 (dn), .bool do2] 25)).cell? ⟨w.heap.size, 1, none⟩ = some (.bool x) := box_cell HBa 0 1 rfl rfl _ rfl; have k3 : (w3.alloc (Obj.cells #[.int .i64 (dn), .bool do2] 25)).cell? ⟨w.heap.size + 1, 0, none⟩ = some (.int .i64 b) := box_cell HBa 1 0 rfl rfl _ rfl; have k4 : (w3.alloc (Obj.cells #[.int .i64 (dn), .bool do2] 25)).cell? ⟨w.heap.size + 1, 1, none⟩ = some (.bool y) := box_cell HBa 1 1 rfl rfl _ rfl
  go_wp2_with fail
  have G2 := newB w3 (Obj.cells #[.int .i64 (dn), .bool do2] 25)
  replace G1 := keepA G1 (Obj.cells #[.int .i64 (dn), .bool do2] 25)
  clear k1 k2 k3 k4
  refine (I1.out _).mono ?_; rintro e w4 ⟨rfl, hb1⟩; replace HB := HBa.trans (hb1.mono HBa.size); replace G1 := keepB G1 hb1; replace G2 := keepB G2 hb1; clear hb1 HBa
  have k1 : (w4).cell? ⟨w.heap.size, 0, none⟩ = some (.int .i64 a) := box_cell HB 0 0 rfl rfl _ rfl; have k2 : (w4).cell? ⟨w.heap.size, 1, none⟩ = some (.bool x) := box_cell HB 0 1 rfl rfl _ rfl; have k3 : (w4).cell? ⟨w.heap.size + 1, 0, none⟩ = some (.int .i64 b) := box_cell HB 1 0 rfl rfl _ rfl; have k4 : (w4).cell? ⟨w.heap.size + 1, 1, none⟩ = some (.bool y) := box_cell HB 1 1 rfl rfl _ rfl
  go_wp2_with fail
  refine (I2.out _).mono ?_; rintro e w5 ⟨rfl, hb1⟩; replace HB := HB.trans (hb1.mono HB.size); replace G1 := keepB G1 hb1; replace G2 := keepB G2 hb1; clear hb1
  clear k1 k2 k3 k4
  go_wp2_with fail
  have HH := Lib.hid (And.intro HB (And.intro G1 G2))
  clear HB G1 G2
  refine wp_region_here 33 [(0, false), (1, false), (2, false), (3, false), (4, false), (5, false), (6, false), (7, false), (8, false), (9, false), (10, false), (11, false), (12, false), (13, false), (14, false), (15, false), (16, false), (17, false), (18, false), (19, false), (20, false), (21, false), (22, false), (23, false), (24, false), (25, false), (26, false), (27, false), (28, false), (29, false), (30, false), (31, false), (32, false)] (fun _ => .cells #[] 0) (by kernel_rfl) (by kernel_rfl) ?_
  repeat (first | (refine wpP_q rfl rfl rfl ?_; apply Exists.intro; refine ⟨fun w' hw' => ?_, fun K hK => ?_⟩; (focus ((have HX := HH.out.1.trans (hw'.mono HH.out.1.size); have k1 : (w').cell? ⟨w.heap.size, 0, none⟩ = some (.int .i64 a) := box_cell HX 0 0 rfl rfl _ rfl; have k2 : (w').cell? ⟨w.heap.size, 1, none⟩ = some (.bool x) := box_cell HX 0 1 rfl rfl _ rfl; have k3 : (w').cell? ⟨w.heap.size + 1, 0, none⟩ = some (.int .i64 b) := box_cell HX 1 0 rfl rfl _ rfl; have k4 : (w').cell? ⟨w.heap.size + 1, 1, none⟩ = some (.bool y) := box_cell HX 1 1 rfl rfl _ rfl; have g1 := cellAt (o := 0) (keepB HH.out.2.1 hw') rfl; have g2 := cellAt (o := 1) (keepB HH.out.2.1 hw') rfl; have g3 := cellAt (o := 0) (keepB HH.out.2.2 hw') rfl; have g4 := cellAt (o := 1) (keepB HH.out.2.2 hw') rfl); go_simp; first | exact quiet_value | first | with_reducible exact quiet_enter (E1.out _) | with_reducible exact quiet_enter (E2.out _) | with_reducible exact quiet_enter (O1.out _) | with_reducible exact quiet_enter (O2.out _))); simp only [Act.put, List.setIfInBounds_toArray, List.set_cons_zero, List.set_cons_succ]; refine hK.out _ ?_; clear hK K) | (refine wpP_skip rfl rfl rfl (fun K hK => ?_); simp only [Act.put, List.setIfInBounds_toArray, List.set_cons_zero, List.set_cons_succ]; refine hK.out _ ?_; clear hK K))
  refine wpP_nil ?_
  intro w6 HBw
  have HB := HH.out.1.trans (HBw.mono HH.out.1.size)
  simp only [List.drop_succ_cons, List.drop_zero]
  go_wp2_with fail
  go_ret
  exact ⟨rfl, box_base HB⟩
set_option maxRecDepth 100000 in
theorem numberCalls_lifted (os : Os) (started : os.Started) (H : Type) (enc : TypeId × Value → H) :
    ReturnsInHanded {} Try.checked os 6 .any (Rows.numberCallsSpec.pre6 enc Try.prog Try.f6 Rows.numberCallsRow.domain false) (Rows.numberCallsSpec.post enc Try.prog Try.f6 false true false false) := by
  refine returnsInHanded_of_change (C := Try.checked) own started (by kernel_rfl) Try.func6
    (ChangeSpec.witness6 (enc := enc) (C := Try.checked) false ⟨#[], #[.int .i64 0, .agg #[.int .i64 0, .bool false], .agg #[.int .i64 0, .bool false], .int .i64 0], []⟩ 8 (by kernel_rfl) (by kernel_rfl) (by kernel_rfl) (by kernel_rfl)) ?_
  intro W base args ds gs before hval0 hW hcnd _
  have hval : ∀ (j : Nat) t v, Try.f6.params[j]? = some t → args[j]? = some v → Value.okWide Try.prog W .any base t v := hval0
  have hW' := hW
  obtain ⟨p, q, hA0, hV, rfl, hfz, hnd⟩ := hW
  have hA : DataW.TrodAll enc Try.prog W 0 (fun _ => true) true Try.f6.params.toList args.toList ds p := hA0
  rw [Try.params6] at hA hval
  obtain ⟨v0, v1, v2, v3, d0, d1, d2, d3, p0, p1, p2, p3, rfl, rfl, rfl, h0, h1, h2, h3⟩ := trodAll_four hA
  obtain ⟨rfl, rfl⟩ := trodVars_none hV
  obtain ⟨op, rfl, rfl, rfl, wop⟩ := open_int Try.underlying3 (hval 0 3 v0 rfl rfl) h0
  obtain ⟨a, x, rfl, rfl, rfl, wa⟩ := open_val (hval 1 25 v1 rfl rfl) h1
  obtain ⟨b, y, rfl, rfl, rfl, wb⟩ := open_val (hval 2 25 v2 rfl rfl) h2
  obtain ⟨n, rfl, rfl, rfl, wn⟩ := open_int Try.underlying2 (hval 3 2 v3 rfl rfl) h3
  clear hA0 hval0
  simp only [List.append_nil] at hW'
  refine (calls_any op a b n x y (wf_I64 wa) (wf_I64 wb) W).mono fun e W' ⟨he, hb⟩ => ?_
  subst he
  exact ⟨_, rfl, post_below (pa := []) (pv := []) hW' (fun _ _ _ => trodAll_mk1 (shut_bool Try.underlying4 _)) (fun sp _ => trodAll_mk4 (shut_int Try.underlying3 wop) (shut_val wa) (shut_val wb) (shut_int Try.underlying2 wn)) (fun _ _ => rfl) rfl
    hb (ok_one (by kernel_rfl) rfl (okWide_bool_mk Try.underlying4 _))⟩
theorem numberCalls_holds : Rows.NumberCallsSaid :=
  OpenClaim.holds_of_wide 6 Try.f6 rfl rfl rfl rfl rfl rfl rfl ⟨rfl, rfl, rfl, rfl, rfl⟩ rfl rfl rfl rfl rfl (by kernel_rfl) Try.func6 (by kernel_rfl)
    (of_decide_eq_true (by kernel_rfl)) (by unfold Func.isWrapper; first | (rw [if_pos (by decide +kernel)]; kernel_rfl) | (rw [if_neg (by decide +kernel)]; exact ⟨rfl, rfl⟩))
    (fun os started H enc _ => numberCalls_lifted os started H enc)
#print axioms numberCalls_holds
end Go.Proofs.Ytfiinceogenlmaa
