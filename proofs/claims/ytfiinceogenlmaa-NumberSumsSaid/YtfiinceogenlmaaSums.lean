/- NumberSums: for every input the law returns true, and its arguments read as they did. No condition. -/
import Derived.Test.YtfiinceogenlmaaFrame
import Derived.Test.YtfiinceogenlmaaLives
import Derived.Test.YtfiinceogenlmaaRef
namespace Go.Proofs.Ytfiinceogenlmaa
open Go.ChangeShapes Go.WideShapes Go.ChangeAt Go.RowKit Go.Joins
theorem sums_bad (s p t q n : Int) (h : n ≠ 0) (w : World) :
    Calls Try.prog 5 #[.agg #[.int .i64 (gH (s)), .int .u64 (gL (s)), .int .u64 (p)], .agg #[.int .i64 (gH (t)), .int .u64 (gL (t)), .int .u64 (q)], .agg #[.int .i64 n, .bool true]] w fun e w' => e = .returned (.bool true) ∧ Below w.heap.size w w' := by
  have HB := Below.refl (boxes w [Obj.cells #[.int .i64 (gH (s)), .int .u64 (gL (s)), .int .u64 (p)] 31, Obj.cells #[.int .i64 (gH (t)), .int .u64 (gL (t)), .int .u64 (q)] 31, Obj.cells #[.int .i64 (n), .bool true] 25]).heap.size (boxes w [Obj.cells #[.int .i64 (gH (s)), .int .u64 (gL (s)), .int .u64 (p)] 31, Obj.cells #[.int .i64 (gH (t)), .int .u64 (gL (t)), .int .u64 (q)] 31, Obj.cells #[.int .i64 (n), .bool true] 25])
  have C := Lib.hid (fun W => check_bad n h W)
  clear h
  go_enter Try.func5, Try.ntmps5
  go_wp2_with fail; refine (lives_any _).mono ?_; rintro e w1 ⟨rfl, hb1⟩; replace HB := HB.trans (hb1.mono HB.size); clear hb1
  have k1 : (w1).cell? ⟨w.heap.size + 2, 0, none⟩ = some (.int .i64 n) := box_cell HB 2 0 rfl rfl _ rfl
  have k2 : (w1).cell? ⟨w.heap.size + 2, 1, none⟩ = some (.bool true) := box_cell HB 2 1 rfl rfl _ rfl
  go_wp2_with fail; refine (C.out _).mono ?_; rintro e w1 ⟨rfl, hb1⟩; replace HB := HB.trans (hb1.mono HB.size); clear hb1
  go_wp2_with fail
  go_ret
  exact ⟨rfl, box_base HB⟩
set_option maxHeartbeats 4000000 in
theorem sums_core (s p t q n : Int) (o : Bool) (hs : I128 s) (hp : U64 p) (hn : I64 n) (ho : o = false ∨ n = 0) (w : World) :
    Calls Try.prog 5 #[.agg #[.int .i64 (gH (s)), .int .u64 (gL (s)), .int .u64 (p)], .agg #[.int .i64 (gH (t)), .int .u64 (gL (t)), .int .u64 (q)], .agg #[.int .i64 n, .bool o]] w fun e w' => e = .returned (.bool true) ∧ Below w.heap.size w w' := by
  have HB := Below.refl (boxes w [Obj.cells #[.int .i64 (gH (s)), .int .u64 (gL (s)), .int .u64 (p)] 31, Obj.cells #[.int .i64 (gH (t)), .int .u64 (gL (t)), .int .u64 (q)] 31, Obj.cells #[.int .i64 (n), .bool o] 25]).heap.size (boxes w [Obj.cells #[.int .i64 (gH (s)), .int .u64 (gL (s)), .int .u64 (p)] 31, Obj.cells #[.int .i64 (gH (t)), .int .u64 (gL (t)), .int .u64 (q)] 31, Obj.cells #[.int .i64 (n), .bool o] 25])
  have C := Lib.hid (fun W => check_ok n o ho W)
  have C1 := Lib.hid (fun W => put_any s p n o hn W)
  have C2 := Lib.hid (fun W => rput_any s p n o hs hn W)
  have C3 := Lib.hid (fun W => take_any s p n o hn W)
  have C4 := Lib.hid (fun W => rtake_any s p n o hs hp hn W)
  have C5 := Lib.hid (fun W => both_any s t p q W)
  have C6 := Lib.hid (fun W => rboth_any s t p q W)
  have C7 := Lib.hid (fun W => value_any s p hs W)
  have C8 := Lib.hid (fun W => rvalue_any s p W)
  clear ho hs hp hn
  go_enter Try.func5, Try.ntmps5
  go_wp2_with fail; refine (lives_any _).mono ?_; rintro e w1 ⟨rfl, hb1⟩; replace HB := HB.trans (hb1.mono HB.size); clear hb1
  have k1 : (w1).cell? ⟨w.heap.size + 2, 0, none⟩ = some (.int .i64 n) := box_cell HB 2 0 rfl rfl _ rfl
  have k2 : (w1).cell? ⟨w.heap.size + 2, 1, none⟩ = some (.bool o) := box_cell HB 2 1 rfl rfl _ rfl
  go_wp2_with fail; refine (C.out _).mono ?_; rintro e w1 ⟨rfl, hb1⟩; replace HB := HB.trans (hb1.mono HB.size); clear hb1
  clear k1 k2
  go_wp2_with fail
  refine wp_region_perm 33 [(0, false), (1, false), (2, false), (3, false), (4, false), (5, false), (6, false), (7, false), (8, false), (9, false), (10, false), (11, false), (12, false), (13, false), (14, false), (15, false), (16, false), (17, false), (18, false), (19, false), (20, false), (21, false), (22, false), (23, false), (24, false), (25, false), (26, false), (27, false), (28, false), (29, false), (30, false), (31, false), (32, false)] (fun _ => .cells #[] 0) (Below (boxes w [Obj.cells #[.int .i64 (gH (s)), .int .u64 (gL (s)), .int .u64 (p)] 31, Obj.cells #[.int .i64 (gH (t)), .int .u64 (gL (t)), .int .u64 (q)] 31, Obj.cells #[.int .i64 (n), .bool o] 25]).heap.size (boxes w [Obj.cells #[.int .i64 (gH (s)), .int .u64 (gL (s)), .int .u64 (p)] 31, Obj.cells #[.int .i64 (gH (t)), .int .u64 (gL (t)), .int .u64 (q)] 31, Obj.cells #[.int .i64 (n), .bool o] 25])) (by kernel_rfl) (by kernel_rfl) (Stab.below _ _ (Nat.le_refl _)) HB.drew ?_
  repeat (first | (refine wpP_q rfl rfl rfl ?_; apply Exists.intro; refine ⟨fun w' hw' => ?_, fun K hK => ?_⟩; (focus ((have k1 : (w').cell? ⟨w.heap.size, 0, none⟩ = some (.int .i64 (gH s)) := box_cell hw' 0 0 rfl rfl _ rfl; have k2 : (w').cell? ⟨w.heap.size, 1, none⟩ = some (.int .u64 (gL s)) := box_cell hw' 0 1 rfl rfl _ rfl; have k3 : (w').cell? ⟨w.heap.size, 2, none⟩ = some (.int .u64 p) := box_cell hw' 0 2 rfl rfl _ rfl; have k4 : (w').cell? ⟨w.heap.size + 1, 0, none⟩ = some (.int .i64 (gH t)) := box_cell hw' 1 0 rfl rfl _ rfl; have k5 : (w').cell? ⟨w.heap.size + 1, 1, none⟩ = some (.int .u64 (gL t)) := box_cell hw' 1 1 rfl rfl _ rfl; have k6 : (w').cell? ⟨w.heap.size + 1, 2, none⟩ = some (.int .u64 q) := box_cell hw' 1 2 rfl rfl _ rfl; have k7 : (w').cell? ⟨w.heap.size + 2, 0, none⟩ = some (.int .i64 n) := box_cell hw' 2 0 rfl rfl _ rfl; have k8 : (w').cell? ⟨w.heap.size + 2, 1, none⟩ = some (.bool o) := box_cell hw' 2 1 rfl rfl _ rfl); go_simp; first | exact quiet_value | first | with_reducible exact quiet_enter (C1.out _) | with_reducible exact quiet_enter (C2.out _) | with_reducible exact quiet_enter (C3.out _) | with_reducible exact quiet_enter (C4.out _) | with_reducible exact quiet_enter (C5.out _) | with_reducible exact quiet_enter (C6.out _) | with_reducible exact quiet_enter (C7.out _) | with_reducible exact quiet_enter (C8.out _))); simp only [Act.put, List.setIfInBounds_toArray, List.set_cons_zero, List.set_cons_succ]; refine hK.out _ ?_; clear hK K) | (refine wpP_skip rfl rfl rfl (fun K hK => ?_); simp only [Act.put, List.setIfInBounds_toArray, List.set_cons_zero, List.set_cons_succ]; refine hK.out _ ?_; clear hK K))
  refine wpP_nil ?_
  intro w1 HB
  simp only [List.drop_succ_cons, List.drop_zero]
  go_wp2_with fail
  go_ret
  exact ⟨rfl, box_base HB⟩
theorem sums_words (h1 l1 p h2 l2 q n : Int) (o : Bool) (b1 : I64 h1) (b2 : U64 l1) (b3 : U64 p) (b5 : U64 l2) (b7 : I64 n) (w : World) :
    Calls Try.prog 5 #[.agg #[.int .i64 h1, .int .u64 l1, .int .u64 p], .agg #[.int .i64 h2, .int .u64 l2, .int .u64 q], .agg #[.int .i64 n, .bool o]] w fun e w' => e = .returned (.bool true) ∧ Below w.heap.size w w' := by
  have H : Calls Try.prog 5 #[.agg #[.int .i64 (gH (gT h1 l1)), .int .u64 (gL (gT h1 l1)), .int .u64 (p)], .agg #[.int .i64 (gH (gT h2 l2)), .int .u64 (gL (gT h2 l2)), .int .u64 (q)], .agg #[.int .i64 n, .bool o]] w fun e w' => e = .returned (.bool true) ∧ Below w.heap.size w w' := by
    by_cases hb : o = true ∧ n ≠ 0
    · obtain ⟨rfl, h⟩ := hb; exact sums_bad _ _ _ _ n h w
    · exact sums_core _ p _ q n o (gT_I b1 b2) b3 b7 (by cases o <;> simp_all) w
  rwa [gH_T b2, gL_T b2, gH_T b5, gL_T b5] at H

theorem wf_U64 {n : Int} (h : (Lit.int .u64 n).wf = true) : U64 n := by
  simp [Lit.wf, IntKind.min, IntKind.max, IntKind.signed, IntKind.bits] at h
  exact ⟨by omega, by omega⟩
set_option maxRecDepth 100000 in
theorem numberSums_lifted (os : Os) (started : os.Started) (H : Type) (enc : TypeId × Value → H) :
    ReturnsInHanded {} Try.checked os 5 .any (Rows.numberSumsSpec.pre6 enc Try.prog Try.f5 Rows.numberSumsRow.domain false) (Rows.numberSumsSpec.post enc Try.prog Try.f5 false true false false) := by
  refine returnsInHanded_of_change (C := Try.checked) own started (by kernel_rfl) Try.func5
    (ChangeSpec.witness6 (enc := enc) (C := Try.checked) false ⟨#[], #[.agg #[.int .i64 0, .int .u64 0, .int .u64 0], .agg #[.int .i64 0, .int .u64 0, .int .u64 0], .agg #[.int .i64 0, .bool false]], []⟩ 8 (by kernel_rfl) (by kernel_rfl) (by kernel_rfl) (by kernel_rfl)) ?_
  intro W base args ds gs before hval0 hW hcnd _
  have hval : ∀ (j : Nat) t v, Try.f5.params[j]? = some t → args[j]? = some v → Value.okWide Try.prog W .any base t v := hval0
  have hW' := hW
  obtain ⟨p, q, hA0, hV, rfl, hfz, hnd⟩ := hW
  have hA : DataW.TrodAll enc Try.prog W 0 (fun _ => true) true Try.f5.params.toList args.toList ds p := hA0
  rw [Try.params5] at hA hval
  obtain ⟨v0, v1, v2, d0, d1, d2, p0, p1, p2, rfl, rfl, rfl, h0, h1, h2⟩ := trodAll_three hA
  obtain ⟨rfl, rfl⟩ := trodVars_none hV
  obtain ⟨a1, a2, a3, rfl, rfl, rfl, wa1, wa2, wa3⟩ := open_great (hval 0 31 v0 rfl rfl) h0
  obtain ⟨b1, b2, b3, rfl, rfl, rfl, wb1, wb2, wb3⟩ := open_great (hval 1 31 v1 rfl rfl) h1
  obtain ⟨n, o, rfl, rfl, rfl, wn⟩ := open_val (hval 2 25 v2 rfl rfl) h2
  clear hA0 hval0
  simp only [List.append_nil] at hW'
  refine (sums_words a1 a2 a3 b1 b2 b3 n o (wf_I64 wa1) (wf_U64 wa2) (wf_U64 wa3) (wf_U64 wb2) (wf_I64 wn) W).mono fun e W' ⟨he, hb⟩ => ?_
  subst he
  exact ⟨_, rfl, post_below (pa := []) (pv := []) hW' (fun _ _ _ => trodAll_mk1 (shut_bool Try.underlying4 _)) (fun sp _ => trodAll_mk3 (shut_great wa1 wa2 wa3) (shut_great wb1 wb2 wb3) (shut_val wn)) (fun _ _ => rfl) rfl
    hb (ok_one (by kernel_rfl) rfl (okWide_bool_mk Try.underlying4 _))⟩
theorem numberSums_holds : Rows.NumberSumsSaid :=
  OpenClaim.holds_of_wide 5 Try.f5 rfl rfl rfl rfl rfl rfl rfl ⟨rfl, rfl, rfl, rfl, rfl⟩ rfl rfl rfl rfl rfl (by kernel_rfl) Try.func5 (by kernel_rfl)
    (of_decide_eq_true (by kernel_rfl)) (by unfold Func.isWrapper; first | (rw [if_pos (by decide +kernel)]; kernel_rfl) | (rw [if_neg (by decide +kernel)]; exact ⟨rfl, rfl⟩))
    (fun os started H enc _ => numberSums_lifted os started H enc)
#print axioms numberSums_holds
end Go.Proofs.Ytfiinceogenlmaa
