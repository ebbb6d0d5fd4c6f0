/- lives: the chapter's examples. -/
import Derived.Test.YtfiinceogenlmaaGreat
namespace Go.Proofs.Ytfiinceogenlmaa
open Go.RowKit
theorem l_do1 (w : World) : Calls Try.prog 16 #[.int .i64 3, .agg #[.int .i64 (4294967296), .bool false], .agg #[.int .i64 (2147483648), .bool false]] w fun e w' => e = .returned (.tuple #[.agg #[.int .i64 (0), .bool true], .int .i64 0]) ∧ Below w.heap.size w w' :=
  (do_mul 4294967296 2147483648 (by decide) (by decide) w).mono fun e w' h => ⟨h.2.1 (by decide), h.2.2⟩
theorem l_do2 (w : World) : Calls Try.prog 16 #[.int .i64 3, .agg #[.int .i64 (-4294967296), .bool false], .agg #[.int .i64 (2147483648), .bool false]] w fun e w' => e = .returned (.tuple #[.agg #[.int .i64 (-9223372036854775808), .bool false], .int .i64 0]) ∧ Below w.heap.size w w' :=
  (do_mul (-4294967296) 2147483648 (by decide) (by decide) w).mono fun e w' h => ⟨h.1 (by decide), h.2.2⟩
theorem l_put1 (w : World) : Calls Try.prog 13 #[.agg #[.int .i64 0, .int .u64 0, .int .u64 0], .agg #[.int .i64 (9223372036854775807), .bool false]] w fun e w' => e = .returned (.agg #[.int .i64 (gH (9223372036854775807)), .int .u64 (gL (9223372036854775807)), .int .u64 (0)]) ∧ Below w.heap.size w w' :=
  put_any 0 0 9223372036854775807 false (by decide) w
theorem l_put2 (w : World) : Calls Try.prog 13 #[.agg #[.int .i64 (gH (9223372036854775807)), .int .u64 (gL (9223372036854775807)), .int .u64 (0)], .agg #[.int .i64 (1), .bool false]] w fun e w' => e = .returned (.agg #[.int .i64 (gH (9223372036854775808)), .int .u64 (gL (9223372036854775808)), .int .u64 (0)]) ∧ Below w.heap.size w w' :=
  put_any 9223372036854775807 0 1 false (by decide) w
theorem l_val1 (w : World) : Calls Try.prog 15 #[.agg #[.int .i64 (gH (9223372036854775808)), .int .u64 (gL (9223372036854775808)), .int .u64 (0)]] w fun e w' => e = .returned (.agg #[.int .i64 (0), .bool true]) ∧ Below w.heap.size w w' :=
  value_any 9223372036854775808 0 (by unfold I128; omega) w
theorem l_take (w : World) : Calls Try.prog 14 #[.agg #[.int .i64 (gH (9223372036854775808)), .int .u64 (gL (9223372036854775808)), .int .u64 (0)], .agg #[.int .i64 (1), .bool false]] w fun e w' => e = .returned (.agg #[.int .i64 (gH (9223372036854775807)), .int .u64 (gL (9223372036854775807)), .int .u64 (0)]) ∧ Below w.heap.size w w' :=
  take_any 9223372036854775808 0 1 false (by decide) w
theorem l_val2 (w : World) : Calls Try.prog 15 #[.agg #[.int .i64 (gH (9223372036854775807)), .int .u64 (gL (9223372036854775807)), .int .u64 (0)]] w fun e w' => e = .returned (.agg #[.int .i64 (9223372036854775807), .bool false]) ∧ Below w.heap.size w w' :=
  value_any 9223372036854775807 0 (by unfold I128; omega) w
set_option maxHeartbeats 4000000 in
theorem lives_any (w : World) : Calls Try.prog 10 #[] w fun e w' => e = .returned (.bool true) ∧ Below w.heap.size w w' := by
  have HB := Below.refl w.heap.size w
  have C1 := Lib.hid (fun W => of_any 4294967296 W)
  have C2 := Lib.hid (fun W => of_any 2147483648 W)
  have C3 := Lib.hid l_do1
  have C4 := Lib.hid (fun W => of_any (-4294967296) W)
  have C5 := Lib.hid l_do2
  have C6 := Lib.hid (fun W => of_any 9223372036854775807 W)
  have C7 := Lib.hid l_put1
  have C8 := Lib.hid (fun W => of_any 1 W)
  have C9 := Lib.hid l_put2
  go_enter Try.func10, Try.ntmps10
  go_wp2_with fail; refine (C1.out _).mono ?_; rintro e w1 ⟨rfl, hb1⟩; replace HB := HB.trans (hb1.mono HB.size); clear hb1
  go_wp2_with fail; refine (C2.out _).mono ?_; rintro e w1 ⟨rfl, hb1⟩; replace HB := HB.trans (hb1.mono HB.size); clear hb1
  go_wp2_with fail; refine (C3.out _).mono ?_; rintro e w1 ⟨rfl, hb1⟩; replace HB := HB.trans (hb1.mono HB.size); clear hb1
  go_wp2_with fail
  have G1 := newB w1 (.cells #[.int .i64 0, .bool true] 25)
  refine (C4.out _).mono ?_; rintro e w2 ⟨rfl, hb⟩; replace HB := (below_alloc HB _).trans (hb.mono (below_alloc HB _).size); replace G1 := keepB G1 hb; clear hb
  go_wp2_with fail
  refine (C2.out _).mono ?_; rintro e w3 ⟨rfl, hb⟩; replace HB := HB.trans (hb.mono HB.size); replace G1 := keepB G1 hb; clear hb
  go_wp2_with fail
  refine (C5.out _).mono ?_; rintro e w4 ⟨rfl, hb⟩; replace HB := HB.trans (hb.mono HB.size); replace G1 := keepB G1 hb; clear hb
  go_wp2_with fail
  replace G1 := keepA G1 (.cells #[.int .i64 (-9223372036854775808), .bool false] 25)
  have G2 := newB w4 (.cells #[.int .i64 (-9223372036854775808), .bool false] 25)
  refine (C6.out _).mono ?_; rintro e w5 ⟨rfl, hb⟩; replace HB := (below_alloc HB _).trans (hb.mono (below_alloc HB _).size); replace G1 := keepB G1 hb; replace G2 := keepB G2 hb; clear hb
  go_wp2_with fail
  refine (C7.out _).mono ?_; rintro e w6 ⟨rfl, hb⟩; replace HB := HB.trans (hb.mono HB.size); replace G1 := keepB G1 hb; replace G2 := keepB G2 hb; clear hb
  go_wp2_with fail
  refine (C8.out _).mono ?_; rintro e w7 ⟨rfl, hb⟩; replace HB := HB.trans (hb.mono HB.size); replace G1 := keepB G1 hb; replace G2 := keepB G2 hb; clear hb
  go_wp2_with fail
  refine (C9.out _).mono ?_; rintro e w8 ⟨rfl, hb⟩; replace HB := HB.trans (hb.mono HB.size); replace G1 := keepB G1 hb; replace G2 := keepB G2 hb; clear hb
  go_wp2_with fail
  replace G1 := keepA G1 (.cells #[.int .i64 (gH 9223372036854775808), .int .u64 (gL 9223372036854775808), .int .u64 0] 31)
  replace G2 := keepA G2 (.cells #[.int .i64 (gH 9223372036854775808), .int .u64 (gL 9223372036854775808), .int .u64 0] 31)
  have G3 := newB w8 (.cells #[.int .i64 (gH 9223372036854775808), .int .u64 (gL 9223372036854775808), .int .u64 0] 31)
  have D1 := Lib.hid (fun W => of_any (-9223372036854775808) W)
  have D2 := Lib.hid l_val1
  have D3 := Lib.hid l_take
  have D4 := Lib.hid l_val2
  replace HB := below_alloc HB (.cells #[.int .i64 (gH 9223372036854775808), .int .u64 (gL 9223372036854775808), .int .u64 0] 31)
  refine wp_region_perm 31 [(0, false), (1, false), (2, false), (3, false), (4, false), (5, false), (6, false), (7, false), (8, false), (9, false), (10, false), (11, false), (12, false), (13, false), (14, false), (15, false), (16, false), (17, false), (18, false), (19, false), (20, false), (21, false), (22, false), (23, false), (24, false), (25, false), (26, false), (27, false), (28, false), (29, false), (30, false)] (fun _ => .cells #[] 0)
    (Below (w8.alloc (.cells #[.int .i64 (gH 9223372036854775808), .int .u64 (gL 9223372036854775808), .int .u64 0] 31)).heap.size (w8.alloc (.cells #[.int .i64 (gH 9223372036854775808), .int .u64 (gL 9223372036854775808), .int .u64 0] 31))) (by kernel_rfl) (by kernel_rfl) (Stab.below _ _ (Nat.le_refl _)) ((Below.refl _ _).drew) ?_
  have HG := Lib.hid (And.intro G1 (And.intro G2 G3))
  clear G1 G2 G3
  repeat (refine wpP_q rfl rfl rfl ?_; apply Exists.intro; refine ⟨fun w' hw' => ?_, fun K hK => ?_⟩; (focus ((have k1 := cellAt (o := 0) (keepB HG.out.1 hw') rfl; have k2 := cellAt (o := 1) (keepB HG.out.1 hw') rfl; have k3 := cellAt (o := 0) (keepB HG.out.2.1 hw') rfl; have k4 := cellAt (o := 1) (keepB HG.out.2.1 hw') rfl; have k5 := cellAt (o := 0) (keepB HG.out.2.2 hw') rfl; have k6 := cellAt (o := 1) (keepB HG.out.2.2 hw') rfl; have k7 := cellAt (o := 2) (keepB HG.out.2.2 hw') rfl); go_simp; first | exact quiet_value | first | with_reducible exact quiet_enter (D1.out _) | with_reducible exact quiet_enter (D2.out _) | with_reducible exact quiet_enter (D3.out _) | with_reducible exact quiet_enter (D4.out _) | with_reducible exact quiet_enter (C6.out _) | with_reducible exact quiet_enter (C8.out _))); simp only [Act.put, List.setIfInBounds_toArray, List.set_cons_zero, List.set_cons_succ]; refine hK.out _ ?_; clear hK K)
  refine wpP_nil ?_
  intro w9 HB9
  replace HB := HB.trans (HB9.mono HB.size)
  simp only [List.drop_succ_cons, List.drop_zero]
  go_wp2_with fail
  go_ret
  exact ⟨rfl, HB⟩
end Go.Proofs.Ytfiinceogenlmaa
