/- The reference's steps. -/
import Derived.Test.YtbhkgnhgecchcaaRwL
namespace Go.Proofs.Ytbhkgnhgecchcaa
open Go.RowKit
set_option maxHeartbeats 4000000 in
set_option maxRecDepth 100000 in
theorem rsteps_any (g o c : Nat) (P : List Pt) (w : World) (hr : RPt w (some ⟨g, o, none⟩) P) (hn : ∀ p ∈ P, In64 p.2) (h0 : 0 < P.length) (hl : P.length ≤ 1099511627776) :
    Calls Try.prog 48 #[.slice (some ⟨g, o, none⟩) P.length c] w fun e w' => e = .returned (.agg #[.int .i64 (gH (w128 (stepsN P))), .int .u64 (gL (w128 (stepsN P))), .int .u64 (0)]) ∧ Below w.heap.size w w' := by
  obtain ⟨b0, b1, b2⟩ := box2 w (Obj.cells #[.int .i64 (gH (0)), .int .u64 (gL (0)), .int .u64 (0)] 75) (Obj.cells #[.int .i64 (gH (0)), .int .u64 (gL (0)), .int .u64 (0)] 75)
  have HR := Lib.hid hr
  have HN := Lib.hid hn
  have HL := Lib.hid hl
  have HZ := Lib.hid b0
  have HB := Lib.hid b2
  have HG : Hid (((w.alloc (Obj.cells #[.int .i64 (gH (0)), .int .u64 (gL (0)), .int .u64 (0)] 75)).alloc (Obj.cells #[.int .i64 (gH (0)), .int .u64 (gL (0)), .int .u64 (0)] 75)).heap[w.heap.size + 1]? = some (Obj.cells #[.int .i64 (gH (w128 (stepsN (P.take 1)))), .int .u64 (gL (w128 (stepsN (P.take 1)))), .int .u64 (0)] 75)) := Lib.hid (by rw [stepsN_one, b1]; rfl)
  clear hr hn hl b0 b1 b2
  go_enter Try.func48, Try.ntmps48
  go_wp2_with fail
  go_loopw [4] (fun y wr => ∃ k : Nat, 1 ≤ k ∧ k ≤ P.length ∧ y = .int .i64 k ∧ Hid (wr.heap[w.heap.size + 1]? = some (Obj.cells #[.int .i64 (gH (w128 (stepsN (P.take k)))), .int .u64 (gL (w128 (stepsN (P.take k)))), .int .u64 (0)] 75)) ∧ Hid (wr.heap[w.heap.size]? = some (Obj.cells #[.int .i64 (gH (0)), .int .u64 (gL (0)), .int .u64 (0)] 75)) ∧ Hid (Below w.heap.size w wr)) (fun y _ => P.length - (intOf y).toNat)
  case atStart => exact ⟨1, by omega, by omega, rfl, HG, HZ, HB⟩
  case round =>
    obtain ⟨k, hk1, hk, rfl, HG, HZ, HB⟩ := hrel
    by_cases h0 : k < P.length
    · have e0 : (k : Int) < (P.length : Int) := by omega
      have HX0 := Lib.hid h0
      obtain ⟨m, rfl⟩ : ∃ m, k = m + 1 := ⟨k - 1, by omega⟩
      obtain ⟨hg, hp⟩ := HR.out.pt (k := m + 1) h0
      obtain ⟨_, hq⟩ := HR.out.pt (k := m) (by omega)
      have HST := Lib.hid (stepsN_take h0)
      have n1 := HN.out P[m + 1] (List.getElem_mem h0)
      have n2 := HN.out (P[m]'(by omega)) (List.getElem_mem _)
      generalize P[m + 1] = x at *
      generalize P[m]'(by omega) = a at *
      obtain ⟨xt, xn⟩ := x
      obtain ⟨at_, an⟩ := a
      simp only at n1 n2 HST
      have HN1 := Lib.hid n1
      have HN2 := Lib.hid n2
      have HP := Lib.hid hp
      have HQ := Lib.hid hq
      have HGL := Lib.hid hg
      clear hp hq n1 n2 hg
      generalize stepsN (P.take (m + 1)) = T at *
      generalize hN : P.length = N at *
      have HNE := Lib.hid hN
      clear hN
      have CO := Lib.hid (fun W => rof_any xn W)
      have CP := Lib.hid (fun W => rput_no T xn HN1.out W)
      have CO2 := Lib.hid (fun W => rof_any an W)
      have CT := Lib.hid (fun W => rtake_no (T + xn) an HN2.out W)
      go_wp2_with fail
      refine wp_region_here 9 [(0, false), (1, false), (2, false), (3, false), (4, false), (5, false), (6, false), (7, false), (8, false)] (fun _ => .cells #[] 0) (by kernel_rfl) (by kernel_rfl) ?_
      repeat (first | (refine wpP_q rfl rfl rfl ?_; apply Exists.intro; refine ⟨fun w' hw' => ?_, fun K hK => ?_⟩; (focus ((have q0 := keepB HG.out hw'; have k0 := cellAt (o := 0) q0 rfl; have k1 := cellAt (o := 1) q0 rfl; have k2 := cellAt (o := 2) q0 rfl; have qp := HP.out.below HGL.out (HB.out.trans (hw'.mono HB.out.size)); unfold PtAt at qp; obtain ⟨p0, p1, p2⟩ := qp; clear q0); go_simp; first | exact quiet_value | first | with_reducible exact quiet_enter (CO.out _) | with_reducible exact quiet_enter (CP.out _))); simp only [Act.put, List.setIfInBounds_toArray, List.set_cons_zero, List.set_cons_succ]; refine hK.out _ ?_; clear hK K) | (refine wpP_skip rfl rfl rfl (fun K hK => ?_); simp only [Act.put, List.setIfInBounds_toArray, List.set_cons_zero, List.set_cons_succ]; refine hK.out _ ?_; clear hK K))
      refine wpP_nil ?_
      intro w1 hb1
      have k9 := keepB HG.out hb1
      have k0 := cellAt (o := 0) k9 rfl
      have k1 := cellAt (o := 1) k9 rfl
      have k2 := cellAt (o := 2) k9 rfl
      have f0 := freeAt 0 k9
      have f1 := freeAt 1 k9
      have f2 := freeAt 2 k9
      have hsz : w.heap.size + 1 < w1.heap.size := only_lt k9
      have HZ1 := Lib.hid (keepB HZ.out hb1)
      have HB1 := Lib.hid (HB.out.trans (hb1.mono HB.out.size))
      have HS3 := Lib.hid (store3 (u := .int .i64 (gH (w128 (T + xn)))) (v := .int .u64 (gL (w128 (T + xn)))) (r := .int .u64 0) k9)
      have hb2 := ((HB1.out.setCell (p := ⟨w.heap.size + 1, 0, none⟩) (by dsimp only; omega) (.int .i64 (gH (w128 (T + xn))))).setCell (p := ⟨w.heap.size + 1, 1, none⟩) (by dsimp only; omega) (.int .u64 (gL (w128 (T + xn))))).setCell (p := ⟨w.heap.size + 1, 2, none⟩) (by dsimp only; omega) (.int .u64 0)
      have HB2 := Lib.hid hb2
      have HZ2 : Hid ((((w1.setCell ⟨w.heap.size + 1, 0, none⟩ (.int .i64 (gH (w128 (T + xn))))).setCell ⟨w.heap.size + 1, 1, none⟩ (.int .u64 (gL (w128 (T + xn))))).setCell ⟨w.heap.size + 1, 2, none⟩ (.int .u64 0)).heap[w.heap.size]? = some (Obj.cells #[.int .i64 (gH (0)), .int .u64 (gL (0)), .int .u64 (0)] 75)) := Lib.hid (setCell_other (setCell_other (setCell_other HZ1.out (by omega)) (by omega)) (by omega))
      clear k9 hb1 hb2 HZ1 HB1
      try simp only [List.drop_succ_cons, List.drop_zero]
      go_wp2_with fail
      generalize (World.setCell (World.setCell (World.setCell w1 _ _) _ _) _ _) = W2 at *
      clear k0 k1 k2 f0 f1 f2 hsz HG HZ HB
      have HW2 := Lib.hid (Below.refl W2.heap.size W2)
      have hx1 : IntKind.i64.wrap (m : Int) = (m : Int) := by have := HL.out; rw [IntKind.wrap_i64]; omega
      have hx2 : (m : Int) < (N : Int) := by omega
      have hk9 : (m : Int) + 1 + 1 ≤ 1099511627776 := by have := HX0.out; have := HL.out; omega
      by_cases hba : xn < an
      · have hge : ¬ an ≤ xn := by omega
        refine wp_region_here 14 [(0, false), (1, false), (2, false), (3, false), (4, false), (5, false), (6, false), (7, false), (8, false), (9, false), (10, false), (11, false), (12, false), (13, false)] (fun _ => .cells #[] 0) (by kernel_rfl) (by kernel_rfl) ?_
        repeat (first | (refine wpP_q rfl rfl rfl ?_; apply Exists.intro; refine ⟨fun w' hw' => ?_, fun K hK => ?_⟩; (focus ((have q1 := HB2.out.trans (hw'.mono HB2.out.size); have qp := HP.out.below HGL.out q1; have qr := HQ.out.below HGL.out q1; unfold PtAt at qp qr; obtain ⟨p0, p1, p2⟩ := qp; obtain ⟨r0, r1, r2⟩ := qr; clear q1); go_simp; first | exact quiet_value | fail)); simp only [Act.put, List.setIfInBounds_toArray, List.set_cons_zero, List.set_cons_succ]; refine hK.out _ ?_; clear hK K) | (refine wpP_skip rfl rfl rfl (fun K hK => ?_); simp only [Act.put, List.setIfInBounds_toArray, List.set_cons_zero, List.set_cons_succ]; refine hK.out _ ?_; clear hK K))
        refine wpP_nil ?_
        intro w3 hb3
        have HB3 := Lib.hid (HB2.out.trans (hb3.mono HB2.out.size))
        have HZ3 := Lib.hid (keepB HZ2.out hb3)
        have HG3 := Lib.hid (keepB HS3.out hb3)
        clear hb3
        try simp only [List.drop_succ_cons, List.drop_zero]
        go_wp2_with fail
        go_roundw
        case rel =>
          refine ⟨m + 2, by omega, by have := HX0.out; have := HNE.out; omega, by have := HX0.out; have := HL.out; go_num, ?_, HZ3, HB3⟩
          rw [HST.out, show stepN an xn = xn from if_pos hba]
          exact HG3
        case measure =>
          have h1 := HX0.out
          have h2 := HNE.out
          have h3 := HL.out
          simp [intOf]; omega
      · have hge : an ≤ xn := by omega
        refine wp_region_here 14 [(0, false), (1, false), (2, false), (3, false), (4, false), (5, false), (6, false), (7, false), (8, false), (9, false), (10, false), (11, false), (12, false), (13, false)] (fun _ => .cells #[] 0) (by kernel_rfl) (by kernel_rfl) ?_
        repeat (first | (refine wpP_q rfl rfl rfl ?_; apply Exists.intro; refine ⟨fun w' hw' => ?_, fun K hK => ?_⟩; (focus ((have q1 := HB2.out.trans (hw'.mono HB2.out.size); have qp := HP.out.below HGL.out q1; have qr := HQ.out.below HGL.out q1; unfold PtAt at qp qr; obtain ⟨p0, p1, p2⟩ := qp; obtain ⟨r0, r1, r2⟩ := qr; clear q1); go_simp; first | exact quiet_value | fail)); simp only [Act.put, List.setIfInBounds_toArray, List.set_cons_zero, List.set_cons_succ]; refine hK.out _ ?_; clear hK K) | (refine wpP_skip rfl rfl rfl (fun K hK => ?_); simp only [Act.put, List.setIfInBounds_toArray, List.set_cons_zero, List.set_cons_succ]; refine hK.out _ ?_; clear hK K))
        refine wpP_nil ?_
        intro w3 hb3
        have HB3 := Lib.hid (HB2.out.trans (hb3.mono HB2.out.size))
        have HZ3 := Lib.hid (keepB HZ2.out hb3)
        have HG3 := Lib.hid (keepB HS3.out hb3)
        clear hb3
        try simp only [List.drop_succ_cons, List.drop_zero]
        go_wp2_with fail
        refine wp_region_here 10 [(0, false), (1, false), (2, false), (3, false), (4, false), (5, false), (6, false), (7, false), (8, false), (9, false)] (fun _ => .cells #[] 0) (by kernel_rfl) (by kernel_rfl) ?_
        repeat (first | (refine wpP_q rfl rfl rfl ?_; apply Exists.intro; refine ⟨fun w' hw' => ?_, fun K hK => ?_⟩; (focus ((have q0 := keepB HG3.out hw'; have k0 := cellAt (o := 0) q0 rfl; have k1 := cellAt (o := 1) q0 rfl; have k2 := cellAt (o := 2) q0 rfl; have qr := HQ.out.below HGL.out (HB3.out.trans (hw'.mono HB3.out.size)); unfold PtAt at qr; obtain ⟨r0, r1, r2⟩ := qr; clear q0); go_simp; first | exact quiet_value | first | with_reducible exact quiet_enter (CO2.out _) | with_reducible exact quiet_enter (CT.out _))); simp only [Act.put, List.setIfInBounds_toArray, List.set_cons_zero, List.set_cons_succ]; refine hK.out _ ?_; clear hK K) | (refine wpP_skip rfl rfl rfl (fun K hK => ?_); simp only [Act.put, List.setIfInBounds_toArray, List.set_cons_zero, List.set_cons_succ]; refine hK.out _ ?_; clear hK K))
        refine wpP_nil ?_
        intro w4 hb4
        have k9 := keepB HG3.out hb4
        have k0 := cellAt (o := 0) k9 rfl
        have k1 := cellAt (o := 1) k9 rfl
        have k2 := cellAt (o := 2) k9 rfl
        have f0 := freeAt 0 k9
        have f1 := freeAt 1 k9
        have f2 := freeAt 2 k9
        have hsz : w.heap.size + 1 < w4.heap.size := only_lt k9
        have HZ4 := Lib.hid (keepB HZ3.out hb4)
        have HB4 := Lib.hid (HB3.out.trans (hb4.mono HB3.out.size))
        have HS4 := Lib.hid (store3 (u := .int .i64 (gH (w128 (T + xn - an)))) (v := .int .u64 (gL (w128 (T + xn - an)))) (r := .int .u64 0) k9)
        have hb5 := ((HB4.out.setCell (p := ⟨w.heap.size + 1, 0, none⟩) (by dsimp only; omega) (.int .i64 (gH (w128 (T + xn - an))))).setCell (p := ⟨w.heap.size + 1, 1, none⟩) (by dsimp only; omega) (.int .u64 (gL (w128 (T + xn - an))))).setCell (p := ⟨w.heap.size + 1, 2, none⟩) (by dsimp only; omega) (.int .u64 0)
        have HB5 := Lib.hid hb5
        have HZ5 : Hid ((((w4.setCell ⟨w.heap.size + 1, 0, none⟩ (.int .i64 (gH (w128 (T + xn - an))))).setCell ⟨w.heap.size + 1, 1, none⟩ (.int .u64 (gL (w128 (T + xn - an))))).setCell ⟨w.heap.size + 1, 2, none⟩ (.int .u64 0)).heap[w.heap.size]? = some (Obj.cells #[.int .i64 (gH (0)), .int .u64 (gL (0)), .int .u64 (0)] 75)) := Lib.hid (setCell_other (setCell_other (setCell_other HZ4.out (by omega)) (by omega)) (by omega))
        clear k9 hb4 hb5 HZ4 HB4
        try simp only [List.drop_succ_cons, List.drop_zero]
        go_wp2_with fail
        generalize (World.setCell (World.setCell (World.setCell w4 _ _) _ _) _ _) = W5 at *
        clear k0 k1 k2 f0 f1 f2 hsz
        go_roundw
        case rel =>
          refine ⟨m + 2, by omega, by have := HX0.out; have := HNE.out; omega, by have := HX0.out; have := HL.out; go_num, ?_, HZ5, HB5⟩
          rw [HST.out, show T + stepN an xn = T + xn - an by rw [show stepN an xn = xn - an from if_neg (by omega)]; omega]
          exact HS4
        case measure =>
          have h1 := HX0.out
          have h2 := HNE.out
          have h3 := HL.out
          simp [intOf]; omega
    · have e0 : ¬ (k : Int) < (P.length : Int) := by omega
      obtain rfl : k = P.length := by omega
      have k9 := HZ.out
      have g9 := HG.out
      rw [List.take_length] at g9
      have m0 := cellAt (o := 0) k9 rfl
      have m1 := cellAt (o := 1) k9 rfl
      have m2 := cellAt (o := 2) k9 rfl
      have f0 := freeAt 0 k9
      have f1 := freeAt 1 k9
      have f2 := freeAt 2 k9
      have k0 := cellAt (o := 0) g9 rfl
      have k1 := cellAt (o := 1) g9 rfl
      have k2 := cellAt (o := 2) g9 rfl
      clear k9 g9 HG HZ
      go_wp2_with fail
      exact bodyPost_ret (v := .agg #[.int .i64 (gH (w128 (stepsN P))), .int .u64 (gL (w128 (stepsN P))), .int .u64 (0)]) (by simp only [results, Try.results48]; go_simp) rfl ⟨rfl, ((HB.out.setCell (by dsimp only; omega) _).setCell (by dsimp only; omega) _).setCell (by dsimp only; omega) _⟩
end Go.Proofs.Ytbhkgnhgecchcaa
