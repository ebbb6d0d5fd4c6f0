/- The reference's Window. -/
import Derived.Test.YtbhkgnhgecchcaaRwS
namespace Go.Proofs.Ytbhkgnhgecchcaa
open Go.RowKit
set_option maxHeartbeats 4000000 in
set_option maxRecDepth 100000 in
theorem rwindow_nil (fn : Int) (A : Option Addr) (c : Nat) (w : World) : Calls Try.prog 27 #[.int .i64 fn, .slice A 0 c] w fun e w' => e = .returned (.tuple #[.agg #[.int .i64 0, .bool false], .bool false]) ∧ Below w.heap.size w w' := by
  have hb := newB w (.cells #[.int .i64 0, .bool false] 25)
  have HB := Lib.hid (below_alloc (Below.refl w.heap.size w) (.cells #[.int .i64 0, .bool false] 25))
  have m0 := cellAt (o := 0) hb rfl
  have m1 := cellAt (o := 1) hb rfl
  have f0 := freeAt 0 hb
  have f1 := freeAt 1 hb
  clear hb
  go_enter Try.func27, Try.ntmps27
  go_wp2_with fail
  go_loopw [7, 6] (fun y ov wr => y = .int .i64 0 ∧ ov = .bool false ∧ wr = w.alloc (.cells #[.int .i64 0, .bool false] 25)) (fun _ _ _ => 0)
  case atStart => exact ⟨rfl, rfl, rfl⟩
  case round =>
    obtain ⟨rfl, rfl, rfl⟩ := hrel
    go_wp2_with fail
    exact bodyPost_ret (v := .tuple #[.agg #[.int .i64 0, .bool false], .bool false]) (by simp only [results, Try.results27]; go_simp) rfl ⟨rfl, HB.out⟩
set_option maxHeartbeats 8000000 in
set_option maxRecDepth 100000 in
theorem rwindow_any (fn : Int) (hfn : 1 ≤ fn ∧ fn ≤ 6) (g o c : Nat) (P : List Pt) (w : World) (hr : RPt w (some ⟨g, o, none⟩) P) (hn : ∀ p ∈ P, In64 p.2) (hP : 0 < P.length) (hl : P.length ≤ 1000000) :
    Calls Try.prog 27 #[.int .i64 fn, .slice (some ⟨g, o, none⟩) P.length c] w fun e w' => e = .returned (vvV fn P) ∧ Below w.heap.size w w' := by
  have HR := Lib.hid hr
  have HN := Lib.hid hn
  have HL := Lib.hid hl
  have HP0 := Lib.hid hP
  have HZ := Lib.hid (newB w (.cells #[.int .i64 0, .bool false] 25))
  have HB := Lib.hid (below_alloc (Below.refl w.heap.size w) (.cells #[.int .i64 0, .bool false] 25))
  have HV : Hid (vvV fn P = .tuple #[.agg #[.int .i64 (wv fn P).1, .bool (wv fn P).2], .bool true]) := Lib.hid (if_neg (by intro e; rw [e] at hP; simp at hP))
  have HFN := Lib.hid hfn
  rw [HV.out]
  obtain ⟨vn, vo, hv⟩ : ∃ vn vo, wv fn P = (vn, vo) := ⟨_, _, rfl⟩
  rw [hv]
  have HW := Lib.hid hv
  clear hr hn hl hP HV hfn hv
  go_enter Try.func27, Try.ntmps27
  go_wp2_with fail
  go_loopw [7, 6] (fun y ov wr => ∃ k : Nat, k ≤ P.length ∧ y = .int .i64 k ∧ ov = .bool false ∧ Hid (wr.heap[w.heap.size]? = some (Obj.cells #[.int .i64 (0), .bool false] 25)) ∧ Hid (Below w.heap.size w wr)) (fun y _ _ => P.length - (intOf y).toNat)
  case atStart => exact ⟨0, Nat.zero_le _, rfl, rfl, HZ, HB⟩
  case round =>
    obtain ⟨k, hk, rfl, rfl, HZ, HB⟩ := hrel
    by_cases h0 : k < P.length
    · have e0 : (k : Int) < (P.length : Int) := by omega
      have HX0 := Lib.hid h0
      obtain ⟨hg, hp⟩ := HR.out.pt h0
      generalize P[k] = x at *
      obtain ⟨xt, xn⟩ := x
      obtain ⟨p0, p1, p2⟩ := hp.below hg HB.out
      have HP := Lib.hid hp
      have HGL := Lib.hid hg
      have hk9 : (k : Int) + 1 ≤ 1099511627776 := by have := HL.out; omega
      clear hp hg
      go_wp2_with fail
      refine (rcheck_no xn _).mono ?_
      rintro e w1 ⟨rfl, hb⟩
      replace HZ := Lib.hid (keepB HZ.out hb)
      replace HB := Lib.hid (HB.out.trans (hb.mono HB.out.size))
      clear hb p0 p1 p2
      obtain ⟨p0, p1, p2⟩ := HP.out.below HGL.out HB.out
      go_wp2_with fail
      go_roundw
      case rel => exact ⟨k + 1, by have := HX0.out; omega, by have := HX0.out; have := HL.out; go_num, rfl, HZ, HB⟩
      case measure =>
        have h1 := HX0.out
        have h3 := HL.out
        simp [intOf]; omega
    · have e0 : ¬ (k : Int) < (P.length : Int) := by omega
      obtain rfl : k = P.length := by omega
      clear hk e0 h0
      obtain ⟨m, hm⟩ : ∃ m, P.length = m + 1 := ⟨P.length - 1, by have := HP0.out; omega⟩
      obtain ⟨hg, hp⟩ := HR.out.pt (show m < P.length by omega)
      have HLA : Hid ((P.getLast?.map (·.2)).getD 0 = (P[m]'(by omega)).2) := Lib.hid (by
        rw [List.getLast?_eq_getElem?, show P.length - 1 = m by omega, List.getElem?_eq_getElem (by omega : m < P.length)]; rfl)
      generalize (P[m]'(by omega)) = x at *
      obtain ⟨xt, xn⟩ := x
      obtain ⟨p0, p1, p2⟩ := hp.below hg HB.out
      have HP := Lib.hid hp
      have HGL := Lib.hid hg
      have HM := Lib.hid hm
      have hwr : IntKind.i64.wrap ((P.length : Int) - 1) = (m : Int) := by have := HL.out; rw [IntKind.wrap_i64]; omega
      have hix : (m : Int) < (P.length : Int) := by omega
      have hne : ((P.length : Int) == 0) = false := beq_eq_false_iff_ne.2 (by omega)
      have hf1 : ¬ fn < 1 := by have := HFN.out; omega
      have hf2 : ¬ 6 < fn := by have := HFN.out; omega
      clear hp hg hm
      have HZa := Lib.hid (keepB HZ.out (below_alloc (Below.refl wr.heap.size wr) (Obj.cells #[.int .i64 (xn), .bool false] 25)))
      have HBa := Lib.hid (below_alloc HB.out (Obj.cells #[.int .i64 (xn), .bool false] 25))
      have HLa := Lib.hid (newB wr (Obj.cells #[.int .i64 (xn), .bool false] 25))
      clear HZ HB
      by_cases h2 : fn = 2
      · subst h2
        have HW1 : Hid (vn = (P.length : Int) ∧ vo = false) := Lib.hid (by have h := HW.out; simp [wv] at h; exact ⟨h.1.symm, by simpa using h.2.symm⟩)
        go_wp2_with fail
        refine (rof_any _ _).mono ?_
        rintro e w1 ⟨rfl, hb⟩
        have k9 := keepB HZa.out hb
        have HBb := Lib.hid (HBa.out.trans (hb.mono HBa.out.size))
        clear hb
        have m0 := cellAt (o := 0) k9 rfl
        have m1 := cellAt (o := 1) k9 rfl
        have f0 := freeAt 0 k9
        have f1 := freeAt 1 k9
        clear k9
        go_wp2_with fail
        refine bodyPost_ret (v := .tuple #[.agg #[.int .i64 ((P.length : Int)), .bool (false)], .bool true]) (by simp only [results, Try.results27]; go_simp) rfl ⟨by rw [HW1.out.1, HW1.out.2], ?_⟩
        exact (HBb.out.setCell (by dsimp only; omega) _).setCell (by dsimp only; omega) _
      by_cases h5 : fn = 5
      · subst h5
        have HW1 : Hid (vn = xn ∧ vo = false) := Lib.hid (by have h := HW.out; simp only [wv, HLA.out] at h; simp at h; exact ⟨h.1.symm, by simpa using h.2.symm⟩)
        have l0 := cellAt (o := 0) HLa.out rfl
        have l1 := cellAt (o := 1) HLa.out rfl
        have k9 := HZa.out
        have HBb := HBa
        have m0 := cellAt (o := 0) k9 rfl
        have m1 := cellAt (o := 1) k9 rfl
        have f0 := freeAt 0 k9
        have f1 := freeAt 1 k9
        clear k9
        go_wp2_with fail
        refine bodyPost_ret (v := .tuple #[.agg #[.int .i64 (xn), .bool (false)], .bool true]) (by simp only [results, Try.results27]; go_simp) rfl ⟨by rw [HW1.out.1, HW1.out.2], ?_⟩
        exact (HBb.out.setCell (by dsimp only; omega) _).setCell (by dsimp only; omega) _
      by_cases h6 : fn = 6
      · subst h6
        have HW1 : Hid (vn = gvN (w128 (stepsN P)) 0 ∧ vo = gvO (w128 (stepsN P)) 0) := Lib.hid (by have h := HW.out; simp [wv] at h; exact ⟨h.1.symm, h.2.symm⟩)
        go_wp2_with fail
        refine (rsteps_any g o c P _ (HR.out.below HBa.out) HN.out HP0.out (by have := HL.out; omega)).mono ?_
        rintro e w1 ⟨rfl, hb⟩
        have k8 := keepB HZa.out hb
        have HBc := Lib.hid (HBa.out.trans (hb.mono HBa.out.size))
        clear hb
        go_wp2_with fail
        refine (rvalue_any _ _ _).mono ?_
        rintro e w2 ⟨rfl, hb⟩
        have k9 := keepB k8 hb
        have HBb := Lib.hid (HBc.out.trans (hb.mono HBc.out.size))
        clear hb k8
        have m0 := cellAt (o := 0) k9 rfl
        have m1 := cellAt (o := 1) k9 rfl
        have f0 := freeAt 0 k9
        have f1 := freeAt 1 k9
        clear k9
        go_wp2_with fail
        refine bodyPost_ret (v := .tuple #[.agg #[.int .i64 (gvN (w128 (stepsN P)) 0), .bool (gvO (w128 (stepsN P)) 0)], .bool true]) (by simp only [results, Try.results27]; go_simp) rfl ⟨by rw [HW1.out.1, HW1.out.2], ?_⟩
        exact (HBb.out.setCell (by dsimp only; omega) _).setCell (by dsimp only; omega) _
      · obtain ⟨hg0, hp0⟩ := HR.out.pt HP0.out
        have HY0 : Hid (P[0]'(HP0.out) ∈ P) := Lib.hid (List.getElem_mem _)
        generalize (P[0]'(HP0.out)) = y at *
        obtain ⟨yt, yn⟩ := y
        rw [Nat.zero_mul, Nat.add_zero] at hp0
        have HPy := Lib.hid hp0
        have HZb := Lib.hid (keepB HZa.out (below_alloc (Below.refl _ _) (Obj.cells #[.int .i64 (gH (0)), .int .u64 (gL (0)), .int .u64 (0)] 75)))
        have HLb := Lib.hid (keepB HLa.out (below_alloc (Below.refl _ _) (Obj.cells #[.int .i64 (gH (0)), .int .u64 (gL (0)), .int .u64 (0)] 75)))
        have HBb := Lib.hid (below_alloc HBa.out (Obj.cells #[.int .i64 (gH (0)), .int .u64 (gL (0)), .int .u64 (0)] 75))
        have HGb : Hid (((wr.alloc (Obj.cells #[.int .i64 (xn), .bool false] 25)).alloc (Obj.cells #[.int .i64 (gH (0)), .int .u64 (gL (0)), .int .u64 (0)] 75)).heap[(wr.alloc (Obj.cells #[.int .i64 (xn), .bool false] 25)).heap.size]? = some (Obj.cells #[.int .i64 (gH (w128 (sumN (P.take 0)))), .int .u64 (gL (w128 (sumN (P.take 0)))), .int .u64 (0)] 75)) := Lib.hid (newB _ _)
        have hsz0 : w.heap.size < (wr.alloc (Obj.cells #[.int .i64 (xn), .bool false] 25)).heap.size := only_lt HZa.out
        have HSZ := Lib.hid hsz0
        clear hp0 HLa HLA HZa hsz0 HBa
        rw [alloc_size] at HGb HSZ
        go_wp2_with fail
        clear hwr hix HP p0 p1 p2
        have hl00 : (0 : Int) < (P.length : Int) := by have := HP0.out; omega
        have hl0 : 0 < P.length := HP0.out
        refine wp_region_here 12 [(0, false), (1, false), (2, false), (3, false), (4, false), (5, false), (6, false), (7, false), (8, false), (9, false), (10, false), (11, false)] (fun _ => .cells #[] 0) (by kernel_rfl) (by kernel_rfl) ?_
        repeat (first | (refine wpP_q rfl rfl rfl ?_; apply Exists.intro; refine ⟨fun w' hw' => ?_, fun K hK => ?_⟩; (focus ((have qp := HPy.out.below hg0 (HBb.out.trans (hw'.mono HBb.out.size)); unfold PtAt at qp; obtain ⟨p0, p1, p2⟩ := qp); go_simp; first | exact quiet_value | fail)); simp only [Act.put, List.setIfInBounds_toArray, List.set_cons_zero, List.set_cons_succ]; refine hK.out _ ?_; clear hK K) | (refine wpP_skip rfl rfl rfl (fun K hK => ?_); simp only [Act.put, List.setIfInBounds_toArray, List.set_cons_zero, List.set_cons_succ]; refine hK.out _ ?_; clear hK K))
        refine wpP_nil ?_
        intro w1 hb1
        replace HZb := Lib.hid (keepB HZb.out hb1)
        replace HGb := Lib.hid (keepB HGb.out hb1)
        replace HBb := Lib.hid (HBb.out.trans (hb1.mono HBb.out.size))
        clear hb1 HLb
        try simp only [List.drop_succ_cons, List.drop_zero]
        go_wp2_with fail
        clear hl00 hl0
        generalize wr.heap.size + 1 = G at *
        have HEND : Hid (∀ sg m, IsEnd sg P m → m = ((sfx sg P).head?.map (·.2)).getD 0) := Lib.hid (fun sg m h => h.uniq (sfx_end sg P (by intro e; have := HP0.out; rw [e] at this; simp at this)))
        go_loopw [12, 10, 11] (fun y lo hi w2 => ∃ (k : Nat) (low high : Int), k ≤ P.length ∧ y = .int .i64 k ∧ lo = .int .i64 low ∧ hi = .int .i64 high ∧ Hid (((∃ p ∈ P, p.2 = low) ∧ ∀ q ∈ P.take k, low ≤ q.2) ∧ (∃ p ∈ P, p.2 = high) ∧ ∀ q ∈ P.take k, q.2 ≤ high) ∧ Hid (w2.heap[G]? = some (Obj.cells #[.int .i64 (gH (w128 (sumN (P.take k)))), .int .u64 (gL (w128 (sumN (P.take k)))), .int .u64 (0)] 75)) ∧ Hid (w2.heap[w.heap.size]? = some (Obj.cells #[.int .i64 (0), .bool false] 25)) ∧ Hid (Below w.heap.size w w2)) (fun y _ _ _ => P.length - (intOf y).toNat)
        case atStart => exact ⟨0, yn, yn, Nat.zero_le _, rfl, rfl, rfl, Lib.hid ⟨⟨⟨_, HY0.out, rfl⟩, by simp⟩, ⟨_, HY0.out, rfl⟩, by simp⟩, HGb, HZb, HBb⟩
        case round =>
          obtain ⟨k, low, high, hk, rfl, rfl, rfl, HE, HG, HZ, HB⟩ := hrel
          clear HGb HZb HBb
          by_cases h0 : k < P.length
          · have e0 : (k : Int) < (P.length : Int) := by omega
            have HX0 := Lib.hid h0
            obtain ⟨hg, hp⟩ := HR.out.pt h0
            have n1 := HN.out P[k] (List.getElem_mem h0)
            have HSM := Lib.hid (sumN_take h0)
            have HTK : Hid (P.take (k + 1) = P.take k ++ [P[k]] ∧ P[k] ∈ P) := Lib.hid ⟨List.take_succ_eq_append_getElem h0, List.getElem_mem h0⟩
            generalize P[k] = x at *
            obtain ⟨zt, zn⟩ := x
            simp only at n1 HSM
            have HP := Lib.hid hp
            have HGL := Lib.hid hg
            have CP := Lib.hid (fun W => rput_no (sumN (P.take k)) zn n1 W)
            have hk9 : (k : Int) + 1 ≤ 1099511627776 := by have := HL.out; omega
            clear hp hg n1
            generalize sumN (P.take k) = T at *
            go_wp2_with fail
            refine wp_region_here 7 [(0, false), (1, false), (2, false), (3, false), (4, false), (5, false), (6, false)] (fun _ => .cells #[] 0) (by kernel_rfl) (by kernel_rfl) ?_
            repeat (first | (refine wpP_q rfl rfl rfl ?_; apply Exists.intro; refine ⟨fun w' hw' => ?_, fun K hK => ?_⟩; (focus ((have q0 := keepB HG.out hw'; have k0 := cellAt (o := 0) q0 rfl; have k1 := cellAt (o := 1) q0 rfl; have k2 := cellAt (o := 2) q0 rfl; have qp := HP.out.below HGL.out (HB.out.trans (hw'.mono HB.out.size)); unfold PtAt at qp; obtain ⟨p0, p1, p2⟩ := qp; clear q0); go_simp; first | exact quiet_value | first | with_reducible exact quiet_enter (CP.out _))); simp only [Act.put, List.setIfInBounds_toArray, List.set_cons_zero, List.set_cons_succ]; refine hK.out _ ?_; clear hK K) | (refine wpP_skip rfl rfl rfl (fun K hK => ?_); simp only [Act.put, List.setIfInBounds_toArray, List.set_cons_zero, List.set_cons_succ]; refine hK.out _ ?_; clear hK K))
            refine wpP_nil ?_
            intro w3 hb3
            have k9 := keepB HG.out hb3
            have k0 := cellAt (o := 0) k9 rfl
            have k1 := cellAt (o := 1) k9 rfl
            have k2 := cellAt (o := 2) k9 rfl
            have f0 := freeAt 0 k9
            have f1 := freeAt 1 k9
            have f2 := freeAt 2 k9
            have hsz : w.heap.size < G := HSZ.out
            have HZ1 := Lib.hid (keepB HZ.out hb3)
            have HB1 := Lib.hid (HB.out.trans (hb3.mono HB.out.size))
            have HS3 := Lib.hid (store3 (u := .int .i64 (gH (w128 (T + zn)))) (v := .int .u64 (gL (w128 (T + zn)))) (r := .int .u64 0) k9)
            have hb4 := ((HB1.out.setCell (p := ⟨G, 0, none⟩) (by dsimp only; omega) (.int .i64 (gH (w128 (T + zn))))).setCell (p := ⟨G, 1, none⟩) (by dsimp only; omega) (.int .u64 (gL (w128 (T + zn))))).setCell (p := ⟨G, 2, none⟩) (by dsimp only; omega) (.int .u64 0)
            have HB4 := Lib.hid hb4
            have HZ4 : Hid ((((w3.setCell ⟨G, 0, none⟩ (.int .i64 (gH (w128 (T + zn))))).setCell ⟨G, 1, none⟩ (.int .u64 (gL (w128 (T + zn))))).setCell ⟨G, 2, none⟩ (.int .u64 0)).heap[w.heap.size]? = some (Obj.cells #[.int .i64 (0), .bool false] 25)) := Lib.hid (setCell_other (setCell_other (setCell_other HZ1.out (by omega)) (by omega)) (by omega))
            clear k9 hb3 hb4 HZ1 HB1
            try simp only [List.drop_succ_cons, List.drop_zero]
            go_wp2_with fail
            generalize (World.setCell (World.setCell (World.setCell w3 _ _) _ _) _ _) = W4 at *
            clear k0 k1 k2 f0 f1 f2 hsz HG HZ HB
            refine wp_region_here 18 [(0, false), (1, false), (2, false), (3, false), (4, false), (5, false), (6, false), (7, false), (8, false), (9, false), (10, false), (11, false), (12, false), (13, false), (14, false), (15, false), (16, false), (17, false)] (fun _ => .cells #[] 0) (by kernel_rfl) (by kernel_rfl) ?_
            repeat (first | (refine wpP_q rfl rfl rfl ?_; apply Exists.intro; refine ⟨fun w' hw' => ?_, fun K hK => ?_⟩; (focus ((have qp := HP.out.below HGL.out (HB4.out.trans (hw'.mono HB4.out.size)); unfold PtAt at qp; obtain ⟨p0, p1, p2⟩ := qp); go_simp; first | exact quiet_value | fail)); simp only [Act.put, List.setIfInBounds_toArray, List.set_cons_zero, List.set_cons_succ]; refine hK.out _ ?_; clear hK K) | (refine wpP_skip rfl rfl rfl (fun K hK => ?_); simp only [Act.put, List.setIfInBounds_toArray, List.set_cons_zero, List.set_cons_succ]; refine hK.out _ ?_; clear hK K))
            refine wpP_nil ?_
            intro w5 hb5
            have HZ5 := Lib.hid (keepB HZ4.out hb5)
            have HG5 := Lib.hid (keepB HS3.out hb5)
            have HB5 := Lib.hid (HB4.out.trans (hb5.mono HB4.out.size))
            clear hb5
            try simp only [List.drop_succ_cons, List.drop_zero]
            go_wp2_with fail
            go_roundw
            case rel =>
              refine ⟨k + 1, if zn < low then zn else low, if high < zn then zn else high, by have := HX0.out; omega, by have := HX0.out; have := HL.out; go_num, ?_, ?_, Lib.hid ?_, ?_, HZ5, HB5⟩
              · rfl
              · rfl
              · obtain ⟨⟨a1, a2⟩, b1, b2⟩ := HE.out
                rw [HTK.out.1]
                refine ⟨⟨?_, fun q hq => ?_⟩, ?_, fun q hq => ?_⟩
                · split
                  · exact ⟨_, HTK.out.2, rfl⟩
                  · exact a1
                · rcases List.mem_append.1 hq with hq | hq
                  · have := a2 q hq; split <;> omega
                  · simp only [List.mem_singleton] at hq; subst hq; split <;> simp only <;> omega
                · split
                  · exact ⟨_, HTK.out.2, rfl⟩
                  · exact b1
                · rcases List.mem_append.1 hq with hq | hq
                  · have := b2 q hq; split <;> omega
                  · simp only [List.mem_singleton] at hq; subst hq; split <;> simp only <;> omega
              · rw [HSM.out]; exact HG5
            case measure =>
              have h1 := HX0.out
              have h3 := HL.out
              simp [intOf]; omega
          · have e0 : ¬ (k : Int) < (P.length : Int) := by omega
            obtain rfl : k = P.length := by omega
            rw [List.take_length] at HE HG
            have hLow : IsEnd false P low := ⟨HE.out.1.1, fun q hq => by unfold leN; simpa using HE.out.1.2 q hq⟩
            have hHigh : IsEnd true P high := ⟨HE.out.2.1, fun q hq => by unfold leN; simpa using HE.out.2.2 q hq⟩
            have HLow := Lib.hid (HEND.out _ _ hLow)
            have HHigh := Lib.hid (HEND.out _ _ hHigh)
            clear hLow hHigh HE HEND h0 e0 hk
            by_cases h3 : fn = 3
            · subst h3
              have HW1 : Hid (vn = low ∧ vo = false) := Lib.hid (by have h := HW.out; simp only [wv] at h; rw [HLow.out]; simp at h ⊢; exact ⟨h.1.symm, by simpa using h.2.symm⟩)
              go_wp2_with fail
              refine (rof_any _ _).mono ?_
              rintro e w1 ⟨rfl, hb⟩
              have k9 := keepB HZ.out hb
              have HBb := Lib.hid (HB.out.trans (hb.mono HB.out.size))
              clear hb
              have m0 := cellAt (o := 0) k9 rfl
              have m1 := cellAt (o := 1) k9 rfl
              have f0 := freeAt 0 k9
              have f1 := freeAt 1 k9
              clear k9
              go_wp2_with fail
              refine bodyPost_ret (v := .tuple #[.agg #[.int .i64 (low), .bool (false)], .bool true]) (by simp only [results, Try.results27]; go_simp) rfl ⟨by rw [HW1.out.1, HW1.out.2], ?_⟩
              exact (HBb.out.setCell (by dsimp only; omega) _).setCell (by dsimp only; omega) _
            by_cases h4 : fn = 4
            · subst h4
              have HW1 : Hid (vn = high ∧ vo = false) := Lib.hid (by have h := HW.out; simp only [wv] at h; rw [HHigh.out]; simp at h ⊢; exact ⟨h.1.symm, by simpa using h.2.symm⟩)
              go_wp2_with fail
              refine (rof_any _ _).mono ?_
              rintro e w1 ⟨rfl, hb⟩
              have k9 := keepB HZ.out hb
              have HBb := Lib.hid (HB.out.trans (hb.mono HB.out.size))
              clear hb
              have m0 := cellAt (o := 0) k9 rfl
              have m1 := cellAt (o := 1) k9 rfl
              have f0 := freeAt 0 k9
              have f1 := freeAt 1 k9
              clear k9
              go_wp2_with fail
              refine bodyPost_ret (v := .tuple #[.agg #[.int .i64 (high), .bool (false)], .bool true]) (by simp only [results, Try.results27]; go_simp) rfl ⟨by rw [HW1.out.1, HW1.out.2], ?_⟩
              exact (HBb.out.setCell (by dsimp only; omega) _).setCell (by dsimp only; omega) _
            · obtain rfl : fn = 1 := by have := HFN.out; omega
              have HW1 : Hid (vn = gvN (w128 (sumN P)) 0 ∧ vo = gvO (w128 (sumN P)) 0) := Lib.hid (by have h := HW.out; simp [wv] at h; exact ⟨h.1.symm, h.2.symm⟩)
              have l0 := cellAt (o := 0) HG.out rfl
              have l1 := cellAt (o := 1) HG.out rfl
              have l2 := cellAt (o := 2) HG.out rfl
              go_wp2_with fail
              refine (rvalue_any _ _ _).mono ?_
              rintro e w2 ⟨rfl, hb⟩
              have k9 := keepB HZ.out hb
              have HBb := Lib.hid (HB.out.trans (hb.mono HB.out.size))
              clear hb l0 l1 l2
              have m0 := cellAt (o := 0) k9 rfl
              have m1 := cellAt (o := 1) k9 rfl
              have f0 := freeAt 0 k9
              have f1 := freeAt 1 k9
              clear k9
              go_wp2_with fail
              refine bodyPost_ret (v := .tuple #[.agg #[.int .i64 (gvN (w128 (sumN P)) 0), .bool (gvO (w128 (sumN P)) 0)], .bool true]) (by simp only [results, Try.results27]; go_simp) rfl ⟨by rw [HW1.out.1, HW1.out.2], ?_⟩
              exact (HBb.out.setCell (by dsimp only; omega) _).setCell (by dsimp only; omega) _
end Go.Proofs.Ytbhkgnhgecchcaa
