/- SlideScript, walked. -/
import Derived.Test.YtbhkgnhgecchcaaScL
import Derived.Test.YtbhkgnhgecchcaaOpA
namespace Go.Proofs.Ytbhkgnhgecchcaa
open Go.RowKit
set_option maxHeartbeats 8000000 in
set_option maxRecDepth 100000 in
theorem script_no (fn span : Int) (A : Option Addr) (l : List ActV) (cap : Nat) (w : World) (hno : ¬ okNew fn span) :
    Calls Try.prog 5 #[.int .i64 fn, .int .i64 span, .slice A l.length cap] w fun e w' => e = .returned (.bool true) ∧ Below w.heap.size w w' := by
  have CN := Lib.hid (fun W => (snew_any fn span W).mono fun e w' (h : NewP fn span W e w') => show e = .returned (.tuple #[.pointer none, .int .i64 2]) ∧ Below W.heap.size W w' from h.elim (fun h => absurd h.1 hno) (fun h => h.2))
  have CR := Lib.hid (fun W => (rnew_any fn span W).mono fun e w' (h : RNewP fn span W e w') => show e = .returned (.tuple #[.pointer none, .int .i64 2]) ∧ Below W.heap.size W w' from h.elim (fun h => absurd h.1 hno) (fun h => h.2))
  clear hno
  go_enter Try.func5, Try.ntmps5
  go_wp2_with fail
  refine (lives_any w).mono ?_
  rintro e w1 ⟨rfl, hb⟩
  have HB := Lib.hid hb
  clear hb
  by_cases h1 : (300 : Int) < (l.length : Int)
  · go_wp2_with fail
    go_ret
    exact ⟨rfl, HB.out⟩
  go_wp2_with fail
  refine (CN.out _).mono ?_
  rintro e w2 ⟨rfl, hb⟩
  replace HB := Lib.hid (HB.out.trans (hb.mono HB.out.size))
  clear hb
  go_wp2_with fail
  refine (CR.out _).mono ?_
  rintro e w3 ⟨rfl, hb⟩
  replace HB := Lib.hid (HB.out.trans (hb.mono HB.out.size))
  clear hb
  go_wp2_with fail
  go_loopw [11] (fun y wr => y = .int .i64 0 ∧ wr = w3) (fun _ _ => 0)
  case atStart => exact ⟨rfl, rfl⟩
  case round =>
    obtain ⟨rfl, rfl⟩ := hrel
    go_wp2_with fail
    all_goals
      refine wp_region_here 21 [(0, false), (1, false), (2, false), (3, false), (4, false), (5, false), (6, false), (7, false), (8, false), (9, false), (10, false), (11, false), (12, false), (13, false), (14, false), (15, false), (16, false), (17, false), (18, false), (19, false), (20, false)] (fun _ => .cells #[] 0) (by kernel_rfl) (by kernel_rfl) ?_
      repeat (first | (refine wpP_q rfl rfl rfl ?_; apply Exists.intro; refine ⟨fun w' hw' => ?_, fun K hK => ?_⟩; (focus ((skip); go_simp; first | exact quiet_value | fail)); simp only [Act.put, List.setIfInBounds_toArray, List.set_cons_zero, List.set_cons_succ]; refine hK.out _ ?_; clear hK K) | (refine wpP_skip rfl rfl rfl (fun K hK => ?_); simp only [Act.put, List.setIfInBounds_toArray, List.set_cons_zero, List.set_cons_succ]; refine hK.out _ ?_; clear hK K) | (refine wpP_skipu rfl rfl rfl (fun K hK => ?_); simp only [Act.put, List.setIfInBounds_toArray, List.set_cons_zero, List.set_cons_succ]; refine hK.out _ ?_; clear hK K))
      refine wpP_nil ?_
      intro w4 hb4
      have HB4 := Lib.hid (HB.out.trans (hb4.mono HB.out.size))
      clear hb4
      try simp only [List.drop_succ_cons, List.drop_nil]
      go_wp2_with fail
      go_ret
      exact ⟨rfl, HB4.out⟩
set_option maxHeartbeats 8000000 in
set_option maxRecDepth 100000 in
theorem script_yes (fn span : Int) (A : Option Addr) (l : List ActV) (cap : Nat) (w : World) (hA : RAct w A l) (hl : ∀ a ∈ l, In64 a.2.1 ∧ In64 a.2.2) (hk : okNew fn span) :
    Calls Try.prog 5 #[.int .i64 fn, .int .i64 span, .slice A l.length cap] w fun e w' => e = .returned (.bool true) ∧ Below w.heap.size w w' := by
  have HA := Lib.hid hA
  have HLL := Lib.hid hl
  have HS : Hid (1 ≤ span ∧ span ≤ 1073741824) := Lib.hid hk.2
  have HFN : Hid (1 ≤ fn ∧ fn ≤ 6) := Lib.hid hk.1
  have HK := Lib.hid hk
  clear hA hl hk
  go_enter Try.func5, Try.ntmps5
  go_wp2_with fail
  refine (lives_any w).mono ?_
  rintro e w1 ⟨rfl, hb⟩
  have HB := Lib.hid hb
  clear hb
  by_cases h1 : (300 : Int) < (l.length : Int)
  · go_wp2_with fail
    go_ret
    exact ⟨rfl, HB.out⟩
  have HL : Hid (l.length ≤ 300) := Lib.hid (by omega)
  go_wp2_with fail
  refine (new_b HK.out _).mono ?_
  rintro e w2 ⟨s, F, rfl, ha, hba⟩
  have HSA := Lib.hid ha
  have HBA := Lib.hid (HB.out.trans (hba.mono HB.out.size))
  clear ha hba
  go_wp2_with fail
  refine (rnew_any _ _ _).mono ?_
  rintro e w3 (⟨_, r, G, rfl, hb, hbb⟩ | ⟨hno, _⟩)
  case inr => exact absurd HK.out hno
  have HT : Hid (Duo w3 w1.heap.size fn span s r ⟨0, [], 0⟩ ⟨0, [], 0⟩) := Lib.hid ⟨F, G, HSA.out.below hbb, ⟨hb.sl, fun k hk => Nat.le_trans HSA.out.le (hb.lo k hk), hb.hi⟩, fun k h => by
    have h1 := HSA.out.hi k h.1
    have h2 := hb.lo k h.2
    omega⟩
  have HB1 := Lib.hid HB.out.size
  replace HB := Lib.hid (HBA.out.trans (hbb.mono HBA.out.size))
  clear hb hbb HSA HBA
  go_wp2_with fail
  go_loopw [11] (fun y wr => ∃ (k : Nat) (σ : Slst), k ≤ l.length ∧ y = .int .i64 k ∧ Hid (Fine σ k) ∧ Hid (Duo wr w1.heap.size fn span s r σ σ) ∧ Hid (Below w.heap.size w wr)) (fun y _ => l.length - (intOf y).toNat)
  case atStart => exact ⟨0, ⟨0, [], 0⟩, Nat.zero_le _, rfl, Lib.hid Fine.zero, HT, HB⟩
  case round =>
    obtain ⟨k, σ, hk, rfl, HF, HT, HBW⟩ := hrel
    clear HB
    by_cases h0 : k < l.length
    · have e0 : (k : Int) < (l.length : Int) := by omega
      have HX0 := Lib.hid h0
      obtain ⟨ad, rfl, _, _⟩ := HA.out (by omega)
      have HCL : Hid (∀ W, Below w.heap.size w W → W.cell? (ad.add (k * 3)) = some (.bool l[k].1) ∧ W.cell? { block := (ad.add (k * 3)).block, off := (ad.add (k * 3)).off + 1 } = some (.int .i64 l[k].2.1) ∧ W.cell? { block := (ad.add (k * 3)).block, off := (ad.add (k * 3)).off + 2 } = some (.int .i64 l[k].2.2)) := Lib.hid (fun W hb => by
        obtain ⟨ad', e, _, h⟩ := HA.out.below hb (by omega)
        cases e
        exact h.at_ k h0)
      obtain ⟨c0, c1, c2⟩ := HCL.out _ HBW.out
      obtain ⟨n1, n2⟩ := HLL.out l[k] (List.getElem_mem h0)
      generalize l[k].1 = isgo at *
      generalize l[k].2.1 = by_ at *
      generalize l[k].2.2 = n at *
      have HN := Lib.hid n2
      have HN1 := Lib.hid n1
      clear n1 n2
      have hk9 : (k : Int) + 1 ≤ 1099511627776 := by have := HL.out; omega
      cases hd1 : decide (-1000 < by_)
      case false =>
        cases isgo
        case false =>
          obtain ⟨x, σ', hq⟩ : ∃ x σ', stPush span σ (by_) n = (x, σ') := ⟨_, _, rfl⟩
          have HQ := Lib.hid hq
          clear hq
          go_wp2_with fail
          clear c0 c1 c2
          refine wp_region_two 17 [(0, false), (1, false), (2, false), (3, false), (4, false), (5, false), (6, false), (8, false), (9, false), (10, false), (11, false), (12, false), (13, false), (14, false), (7, true), (15, true), (16, false)] [] [] rfl (Below w.heap.size w) (fun W => Duo W w1.heap.size fn span s r σ σ) (by kernel_rfl) (by kernel_rfl) (Stab.below _ _ (Nat.le_refl _)) (fun _ _ h hb => h.below hb) ((HBW.out).drew) (HT.out.below (Below.refl _ _).drew) ?_
          repeat (first | (refine wt_q rfl rfl ?_; apply Exists.intro; refine ⟨fun w' hw' => ?_, fun K hK => ?_⟩; (focus ((obtain ⟨c0, c1, c2⟩ := HCL.out _ hw'); go_simp; first | exact quiet_value | fail)); simp only [Act.put, List.setIfInBounds_toArray, List.set_cons_zero, List.set_cons_succ]; refine hK.out _ ?_; clear hK K) | (refine wt_skip rfl rfl (fun K hK => ?_); simp only [Act.put, List.setIfInBounds_toArray, List.set_cons_zero, List.set_cons_succ]; refine hK.out _ ?_; clear hK K))
          refine wt_step rfl (fun u _ => u = .int .i64 x) (fun _ W => Duo W w1.heap.size fn span s r σ' σ) (fun _ _ _ h _ => h) (fun _ _ _ h hb => h.below hb) rfl rfl (fun w' hc hd => ?_) (fun K hK v => ?_)
          focus
            have HC := Lib.hid hc
            have HDD := Lib.hid hd
            clear hc hd
            go_simp
            refine st_enter ?_
            exact (HDD.out.push1 HF.out (by have := HL.out; omega) HS.out (by_) n HN.out HQ.out).mono fun _ _ h => ⟨_, h.1, HC.out.trans (h.2.2.mono HB1.out), rfl, h.2.1⟩
          simp only [Act.put, List.setIfInBounds_toArray, List.set_cons_zero, List.set_cons_succ]
          refine hK.out _ _ _ ?_
          clear hK K
          refine wt_step rfl (fun u _ => u = .int .i64 x) (fun _ W => Duo W w1.heap.size fn span s r σ' σ') (fun _ _ _ h _ => h) (fun _ _ _ h hb => h.below hb) rfl rfl (fun w' hc hd => ?_) (fun K hK v2 => ?_)
          focus
            have HC := Lib.hid hc
            have HDD := Lib.hid hd
            clear hc hd
            go_simp
            refine st_enter ?_
            exact (HDD.out.push2 HF.out (by have := HL.out; omega) HS.out (by_) n HN.out HQ.out).mono fun _ _ h => ⟨_, h.1, ⟨HC.out.1.trans (h.2.2.mono HB1.out), HC.out.2⟩, rfl, h.2.1⟩
          simp only [Act.put, List.setIfInBounds_toArray, List.set_cons_zero, List.set_cons_succ]
          refine hK.out _ _ _ ?_
          clear hK K
          repeat (first | (refine wt_q rfl rfl ?_; apply Exists.intro; refine ⟨fun w' hw' => ?_, fun K hK => ?_⟩; (focus ((skip); go_simp; first | exact quiet_value | fail)); simp only [Act.put, List.setIfInBounds_toArray, List.set_cons_zero, List.set_cons_succ]; refine hK.out _ ?_; clear hK K) | (refine wt_skip rfl rfl (fun K hK => ?_); simp only [Act.put, List.setIfInBounds_toArray, List.set_cons_zero, List.set_cons_succ]; refine hK.out _ ?_; clear hK K))
          refine wt_nil ?_
          rintro w7 ⟨⟨hb7, rfl⟩, rfl⟩ ht7
          replace HBW := Lib.hid hb7
          replace HT := Lib.hid ht7
          have HF1 : Hid (Fine σ' (k + 1)) := Lib.hid (by have h := HF.out.push (span := span) (by have := HL.out; omega) (by_) n HN.out; rw [HQ.out] at h; exact h)
          clear hb7 ht7
          try simp only [List.drop_succ_cons]
          obtain ⟨vn, vo, vi, hv⟩ := vvV_form fn σ'.pts
          have HV := Lib.hid hv
          clear hv
          go_wp2_with fail
          refine (HT.out.val1 HF1.out (by have := HL.out; omega) _ HV.out).mono ?_
          rintro e w8 ⟨rfl, hb⟩
          have HX := Lib.hid (newB w8 (.cells #[.int .i64 vn, .bool vo] 25))
          have hb2 := hb.trans ((below_alloc (Below.refl w8.heap.size w8) (.cells #[.int .i64 vn, .bool vo] 25)).mono hb.size)
          replace HBW := Lib.hid (HBW.out.trans (hb2.mono HBW.out.size))
          replace HT := Lib.hid (HT.out.below hb2)
          clear hb hb2
          go_wp2_with fail
          refine (HT.out.val2 HF1.out (by have := HL.out; omega) HFN.out _ HV.out).mono ?_
          rintro e w9 ⟨rfl, hb⟩
          have HY := Lib.hid (newB w9 (.cells #[.int .i64 vn, .bool vo] 25))
          have hb2 := hb.trans ((below_alloc (Below.refl w9.heap.size w9) (.cells #[.int .i64 vn, .bool vo] 25)).mono hb.size)
          replace HBW := Lib.hid (HBW.out.trans (hb2.mono HBW.out.size))
          replace HT := Lib.hid (HT.out.below hb2)
          replace HX := Lib.hid (keepB HX.out hb2)
          clear hb hb2
          obtain ⟨A9, c9, hcell, hlt, _, _⟩ := HT.out.pts2
          have HCE := Lib.hid hcell
          have HLT := Lib.hid hlt
          have CL := Lib.hid (fun W hb => (HT.out.below (w' := W) hb).len1)
          have C1 := Lib.hid (fun W hb => (HT.out.below (w' := W) hb).tim1)
          have C2 := Lib.hid (fun W hb => (HT.out.below (w' := W) hb).tim2)
          clear hcell hlt
          go_wp2_with fail
          generalize w9.alloc (.cells #[.int .i64 vn, .bool vo] 25) = wa at *
          refine wp_region_here 30 [(0, false), (1, false), (2, false), (3, false), (4, false), (5, false), (6, false), (7, false), (8, false), (9, false), (10, false), (11, false), (12, false), (13, false), (14, false), (15, false), (16, false), (17, false), (18, false), (19, false), (20, false), (21, false), (22, false), (23, false), (24, false), (25, false), (26, false), (27, false), (28, false), (29, false)] (fun _ => .cells #[] 0) (by kernel_rfl) (by kernel_rfl) ?_
          repeat (first | (refine wpP_q rfl rfl rfl ?_; apply Exists.intro; refine ⟨fun w' hw' => ?_, fun K hK => ?_⟩; (focus ((have q0 := keepB HX.out hw'; have q1 := keepB HY.out hw'; have j0 := cellAt (o := 0) q0 rfl; have j1 := cellAt (o := 1) q0 rfl; have j2 := cellAt (o := 0) q1 rfl; have j3 := cellAt (o := 1) q1 rfl; have j4 := (Below.cell hw' HLT.out).trans HCE.out; clear q0 q1); go_simp; first | exact quiet_value | first | with_reducible exact quiet_enter (CL.out _ hw') | with_reducible exact quiet_enter (C1.out _ hw') | with_reducible exact quiet_enter (C2.out _ hw'))); simp only [Act.put, List.setIfInBounds_toArray, List.set_cons_zero, List.set_cons_succ]; refine hK.out _ ?_; clear hK K) | (refine wpP_skip rfl rfl rfl (fun K hK => ?_); simp only [Act.put, List.setIfInBounds_toArray, List.set_cons_zero, List.set_cons_succ]; refine hK.out _ ?_; clear hK K))
          refine wpP_nil ?_
          intro w10 hb10
          replace HBW := Lib.hid (HBW.out.trans (hb10.mono HBW.out.size))
          replace HT := Lib.hid (HT.out.below hb10)
          clear hb10
          try simp only [List.drop_succ_cons, List.drop_nil]
          go_wp2_with fail
          go_roundw
          case rel => exact ⟨k + 1, σ', HX0.out, by go_num, HF1, HT, HBW⟩
          case measure =>
            have h1 := HX0.out
            have h2 := HL.out
            simp [intOf]; omega
        case true =>
          obtain ⟨x, σ', hq⟩ : ∃ x σ', stGo span σ (by_) = (x, σ') := ⟨_, _, rfl⟩
          have HQ := Lib.hid hq
          clear hq
          go_wp2_with fail
          refine (HT.out.go1 HF.out (by have := HL.out; omega) HS.out (by_) HQ.out).mono ?_
          rintro e w6 ⟨rfl, ht, hb⟩
          replace HBW := Lib.hid (HBW.out.trans (hb.mono HB1.out))
          replace HT := Lib.hid ht
          clear ht hb c0 c1 c2
          go_wp2_with fail
          refine (HT.out.go2 HF.out HS.out (by_) HQ.out).mono ?_
          rintro e w7 ⟨rfl, ht, hb⟩
          replace HBW := Lib.hid (HBW.out.trans (hb.mono HB1.out))
          replace HT := Lib.hid ht
          clear ht hb
          have HF1 : Hid (Fine σ' (k + 1)) := Lib.hid (by have h := (HF.out.go (span := span) (by_)).le (Nat.le_succ k); rw [HQ.out] at h; exact h)
          obtain ⟨vn, vo, vi, hv⟩ := vvV_form fn σ'.pts
          have HV := Lib.hid hv
          clear hv
          go_wp2_with fail
          refine (HT.out.val1 HF1.out (by have := HL.out; omega) _ HV.out).mono ?_
          rintro e w8 ⟨rfl, hb⟩
          have HX := Lib.hid (newB w8 (.cells #[.int .i64 vn, .bool vo] 25))
          have hb2 := hb.trans ((below_alloc (Below.refl w8.heap.size w8) (.cells #[.int .i64 vn, .bool vo] 25)).mono hb.size)
          replace HBW := Lib.hid (HBW.out.trans (hb2.mono HBW.out.size))
          replace HT := Lib.hid (HT.out.below hb2)
          clear hb hb2
          go_wp2_with fail
          refine (HT.out.val2 HF1.out (by have := HL.out; omega) HFN.out _ HV.out).mono ?_
          rintro e w9 ⟨rfl, hb⟩
          have HY := Lib.hid (newB w9 (.cells #[.int .i64 vn, .bool vo] 25))
          have hb2 := hb.trans ((below_alloc (Below.refl w9.heap.size w9) (.cells #[.int .i64 vn, .bool vo] 25)).mono hb.size)
          replace HBW := Lib.hid (HBW.out.trans (hb2.mono HBW.out.size))
          replace HT := Lib.hid (HT.out.below hb2)
          replace HX := Lib.hid (keepB HX.out hb2)
          clear hb hb2
          obtain ⟨A9, c9, hcell, hlt, _, _⟩ := HT.out.pts2
          have HCE := Lib.hid hcell
          have HLT := Lib.hid hlt
          have CL := Lib.hid (fun W hb => (HT.out.below (w' := W) hb).len1)
          have C1 := Lib.hid (fun W hb => (HT.out.below (w' := W) hb).tim1)
          have C2 := Lib.hid (fun W hb => (HT.out.below (w' := W) hb).tim2)
          clear hcell hlt
          go_wp2_with fail
          generalize w9.alloc (.cells #[.int .i64 vn, .bool vo] 25) = wa at *
          refine wp_region_here 30 [(0, false), (1, false), (2, false), (3, false), (4, false), (5, false), (6, false), (7, false), (8, false), (9, false), (10, false), (11, false), (12, false), (13, false), (14, false), (15, false), (16, false), (17, false), (18, false), (19, false), (20, false), (21, false), (22, false), (23, false), (24, false), (25, false), (26, false), (27, false), (28, false), (29, false)] (fun _ => .cells #[] 0) (by kernel_rfl) (by kernel_rfl) ?_
          repeat (first | (refine wpP_q rfl rfl rfl ?_; apply Exists.intro; refine ⟨fun w' hw' => ?_, fun K hK => ?_⟩; (focus ((have q0 := keepB HX.out hw'; have q1 := keepB HY.out hw'; have j0 := cellAt (o := 0) q0 rfl; have j1 := cellAt (o := 1) q0 rfl; have j2 := cellAt (o := 0) q1 rfl; have j3 := cellAt (o := 1) q1 rfl; have j4 := (Below.cell hw' HLT.out).trans HCE.out; clear q0 q1); go_simp; first | exact quiet_value | first | with_reducible exact quiet_enter (CL.out _ hw') | with_reducible exact quiet_enter (C1.out _ hw') | with_reducible exact quiet_enter (C2.out _ hw'))); simp only [Act.put, List.setIfInBounds_toArray, List.set_cons_zero, List.set_cons_succ]; refine hK.out _ ?_; clear hK K) | (refine wpP_skip rfl rfl rfl (fun K hK => ?_); simp only [Act.put, List.setIfInBounds_toArray, List.set_cons_zero, List.set_cons_succ]; refine hK.out _ ?_; clear hK K))
          refine wpP_nil ?_
          intro w10 hb10
          replace HBW := Lib.hid (HBW.out.trans (hb10.mono HBW.out.size))
          replace HT := Lib.hid (HT.out.below hb10)
          clear hb10
          try simp only [List.drop_succ_cons, List.drop_nil]
          go_wp2_with fail
          go_roundw
          case rel => exact ⟨k + 1, σ', HX0.out, by go_num, HF1, HT, HBW⟩
          case measure =>
            have h1 := HX0.out
            have h2 := HL.out
            simp [intOf]; omega
      case true =>
        cases hd2 : decide (by_ < 1000)
        case false =>
          cases isgo
          case false =>
            obtain ⟨x, σ', hq⟩ : ∃ x σ', stPush span σ (by_) n = (x, σ') := ⟨_, _, rfl⟩
            have HQ := Lib.hid hq
            clear hq
            go_wp2_with fail
            clear c0 c1 c2
            refine wp_region_two 17 [(0, false), (1, false), (2, false), (3, false), (4, false), (5, false), (6, false), (8, false), (9, false), (10, false), (11, false), (12, false), (13, false), (14, false), (7, true), (15, true), (16, false)] [] [] rfl (Below w.heap.size w) (fun W => Duo W w1.heap.size fn span s r σ σ) (by kernel_rfl) (by kernel_rfl) (Stab.below _ _ (Nat.le_refl _)) (fun _ _ h hb => h.below hb) ((HBW.out).drew) (HT.out.below (Below.refl _ _).drew) ?_
            repeat (first | (refine wt_q rfl rfl ?_; apply Exists.intro; refine ⟨fun w' hw' => ?_, fun K hK => ?_⟩; (focus ((obtain ⟨c0, c1, c2⟩ := HCL.out _ hw'); go_simp; first | exact quiet_value | fail)); simp only [Act.put, List.setIfInBounds_toArray, List.set_cons_zero, List.set_cons_succ]; refine hK.out _ ?_; clear hK K) | (refine wt_skip rfl rfl (fun K hK => ?_); simp only [Act.put, List.setIfInBounds_toArray, List.set_cons_zero, List.set_cons_succ]; refine hK.out _ ?_; clear hK K))
            refine wt_step rfl (fun u _ => u = .int .i64 x) (fun _ W => Duo W w1.heap.size fn span s r σ' σ) (fun _ _ _ h _ => h) (fun _ _ _ h hb => h.below hb) rfl rfl (fun w' hc hd => ?_) (fun K hK v => ?_)
            focus
              have HC := Lib.hid hc
              have HDD := Lib.hid hd
              clear hc hd
              go_simp
              refine st_enter ?_
              exact (HDD.out.push1 HF.out (by have := HL.out; omega) HS.out (by_) n HN.out HQ.out).mono fun _ _ h => ⟨_, h.1, HC.out.trans (h.2.2.mono HB1.out), rfl, h.2.1⟩
            simp only [Act.put, List.setIfInBounds_toArray, List.set_cons_zero, List.set_cons_succ]
            refine hK.out _ _ _ ?_
            clear hK K
            refine wt_step rfl (fun u _ => u = .int .i64 x) (fun _ W => Duo W w1.heap.size fn span s r σ' σ') (fun _ _ _ h _ => h) (fun _ _ _ h hb => h.below hb) rfl rfl (fun w' hc hd => ?_) (fun K hK v2 => ?_)
            focus
              have HC := Lib.hid hc
              have HDD := Lib.hid hd
              clear hc hd
              go_simp
              refine st_enter ?_
              exact (HDD.out.push2 HF.out (by have := HL.out; omega) HS.out (by_) n HN.out HQ.out).mono fun _ _ h => ⟨_, h.1, ⟨HC.out.1.trans (h.2.2.mono HB1.out), HC.out.2⟩, rfl, h.2.1⟩
            simp only [Act.put, List.setIfInBounds_toArray, List.set_cons_zero, List.set_cons_succ]
            refine hK.out _ _ _ ?_
            clear hK K
            repeat (first | (refine wt_q rfl rfl ?_; apply Exists.intro; refine ⟨fun w' hw' => ?_, fun K hK => ?_⟩; (focus ((skip); go_simp; first | exact quiet_value | fail)); simp only [Act.put, List.setIfInBounds_toArray, List.set_cons_zero, List.set_cons_succ]; refine hK.out _ ?_; clear hK K) | (refine wt_skip rfl rfl (fun K hK => ?_); simp only [Act.put, List.setIfInBounds_toArray, List.set_cons_zero, List.set_cons_succ]; refine hK.out _ ?_; clear hK K))
            refine wt_nil ?_
            rintro w7 ⟨⟨hb7, rfl⟩, rfl⟩ ht7
            replace HBW := Lib.hid hb7
            replace HT := Lib.hid ht7
            have HF1 : Hid (Fine σ' (k + 1)) := Lib.hid (by have h := HF.out.push (span := span) (by have := HL.out; omega) (by_) n HN.out; rw [HQ.out] at h; exact h)
            clear hb7 ht7
            try simp only [List.drop_succ_cons]
            obtain ⟨vn, vo, vi, hv⟩ := vvV_form fn σ'.pts
            have HV := Lib.hid hv
            clear hv
            go_wp2_with fail
            refine (HT.out.val1 HF1.out (by have := HL.out; omega) _ HV.out).mono ?_
            rintro e w8 ⟨rfl, hb⟩
            have HX := Lib.hid (newB w8 (.cells #[.int .i64 vn, .bool vo] 25))
            have hb2 := hb.trans ((below_alloc (Below.refl w8.heap.size w8) (.cells #[.int .i64 vn, .bool vo] 25)).mono hb.size)
            replace HBW := Lib.hid (HBW.out.trans (hb2.mono HBW.out.size))
            replace HT := Lib.hid (HT.out.below hb2)
            clear hb hb2
            go_wp2_with fail
            refine (HT.out.val2 HF1.out (by have := HL.out; omega) HFN.out _ HV.out).mono ?_
            rintro e w9 ⟨rfl, hb⟩
            have HY := Lib.hid (newB w9 (.cells #[.int .i64 vn, .bool vo] 25))
            have hb2 := hb.trans ((below_alloc (Below.refl w9.heap.size w9) (.cells #[.int .i64 vn, .bool vo] 25)).mono hb.size)
            replace HBW := Lib.hid (HBW.out.trans (hb2.mono HBW.out.size))
            replace HT := Lib.hid (HT.out.below hb2)
            replace HX := Lib.hid (keepB HX.out hb2)
            clear hb hb2
            obtain ⟨A9, c9, hcell, hlt, _, _⟩ := HT.out.pts2
            have HCE := Lib.hid hcell
            have HLT := Lib.hid hlt
            have CL := Lib.hid (fun W hb => (HT.out.below (w' := W) hb).len1)
            have C1 := Lib.hid (fun W hb => (HT.out.below (w' := W) hb).tim1)
            have C2 := Lib.hid (fun W hb => (HT.out.below (w' := W) hb).tim2)
            clear hcell hlt
            go_wp2_with fail
            generalize w9.alloc (.cells #[.int .i64 vn, .bool vo] 25) = wa at *
            refine wp_region_here 30 [(0, false), (1, false), (2, false), (3, false), (4, false), (5, false), (6, false), (7, false), (8, false), (9, false), (10, false), (11, false), (12, false), (13, false), (14, false), (15, false), (16, false), (17, false), (18, false), (19, false), (20, false), (21, false), (22, false), (23, false), (24, false), (25, false), (26, false), (27, false), (28, false), (29, false)] (fun _ => .cells #[] 0) (by kernel_rfl) (by kernel_rfl) ?_
            repeat (first | (refine wpP_q rfl rfl rfl ?_; apply Exists.intro; refine ⟨fun w' hw' => ?_, fun K hK => ?_⟩; (focus ((have q0 := keepB HX.out hw'; have q1 := keepB HY.out hw'; have j0 := cellAt (o := 0) q0 rfl; have j1 := cellAt (o := 1) q0 rfl; have j2 := cellAt (o := 0) q1 rfl; have j3 := cellAt (o := 1) q1 rfl; have j4 := (Below.cell hw' HLT.out).trans HCE.out; clear q0 q1); go_simp; first | exact quiet_value | first | with_reducible exact quiet_enter (CL.out _ hw') | with_reducible exact quiet_enter (C1.out _ hw') | with_reducible exact quiet_enter (C2.out _ hw'))); simp only [Act.put, List.setIfInBounds_toArray, List.set_cons_zero, List.set_cons_succ]; refine hK.out _ ?_; clear hK K) | (refine wpP_skip rfl rfl rfl (fun K hK => ?_); simp only [Act.put, List.setIfInBounds_toArray, List.set_cons_zero, List.set_cons_succ]; refine hK.out _ ?_; clear hK K))
            refine wpP_nil ?_
            intro w10 hb10
            replace HBW := Lib.hid (HBW.out.trans (hb10.mono HBW.out.size))
            replace HT := Lib.hid (HT.out.below hb10)
            clear hb10
            try simp only [List.drop_succ_cons, List.drop_nil]
            go_wp2_with fail
            go_roundw
            case rel => exact ⟨k + 1, σ', HX0.out, by go_num, HF1, HT, HBW⟩
            case measure =>
              have h1 := HX0.out
              have h2 := HL.out
              simp [intOf]; omega
          case true =>
            obtain ⟨x, σ', hq⟩ : ∃ x σ', stGo span σ (by_) = (x, σ') := ⟨_, _, rfl⟩
            have HQ := Lib.hid hq
            clear hq
            go_wp2_with fail
            refine (HT.out.go1 HF.out (by have := HL.out; omega) HS.out (by_) HQ.out).mono ?_
            rintro e w6 ⟨rfl, ht, hb⟩
            replace HBW := Lib.hid (HBW.out.trans (hb.mono HB1.out))
            replace HT := Lib.hid ht
            clear ht hb c0 c1 c2
            go_wp2_with fail
            refine (HT.out.go2 HF.out HS.out (by_) HQ.out).mono ?_
            rintro e w7 ⟨rfl, ht, hb⟩
            replace HBW := Lib.hid (HBW.out.trans (hb.mono HB1.out))
            replace HT := Lib.hid ht
            clear ht hb
            have HF1 : Hid (Fine σ' (k + 1)) := Lib.hid (by have h := (HF.out.go (span := span) (by_)).le (Nat.le_succ k); rw [HQ.out] at h; exact h)
            obtain ⟨vn, vo, vi, hv⟩ := vvV_form fn σ'.pts
            have HV := Lib.hid hv
            clear hv
            go_wp2_with fail
            refine (HT.out.val1 HF1.out (by have := HL.out; omega) _ HV.out).mono ?_
            rintro e w8 ⟨rfl, hb⟩
            have HX := Lib.hid (newB w8 (.cells #[.int .i64 vn, .bool vo] 25))
            have hb2 := hb.trans ((below_alloc (Below.refl w8.heap.size w8) (.cells #[.int .i64 vn, .bool vo] 25)).mono hb.size)
            replace HBW := Lib.hid (HBW.out.trans (hb2.mono HBW.out.size))
            replace HT := Lib.hid (HT.out.below hb2)
            clear hb hb2
            go_wp2_with fail
            refine (HT.out.val2 HF1.out (by have := HL.out; omega) HFN.out _ HV.out).mono ?_
            rintro e w9 ⟨rfl, hb⟩
            have HY := Lib.hid (newB w9 (.cells #[.int .i64 vn, .bool vo] 25))
            have hb2 := hb.trans ((below_alloc (Below.refl w9.heap.size w9) (.cells #[.int .i64 vn, .bool vo] 25)).mono hb.size)
            replace HBW := Lib.hid (HBW.out.trans (hb2.mono HBW.out.size))
            replace HT := Lib.hid (HT.out.below hb2)
            replace HX := Lib.hid (keepB HX.out hb2)
            clear hb hb2
            obtain ⟨A9, c9, hcell, hlt, _, _⟩ := HT.out.pts2
            have HCE := Lib.hid hcell
            have HLT := Lib.hid hlt
            have CL := Lib.hid (fun W hb => (HT.out.below (w' := W) hb).len1)
            have C1 := Lib.hid (fun W hb => (HT.out.below (w' := W) hb).tim1)
            have C2 := Lib.hid (fun W hb => (HT.out.below (w' := W) hb).tim2)
            clear hcell hlt
            go_wp2_with fail
            generalize w9.alloc (.cells #[.int .i64 vn, .bool vo] 25) = wa at *
            refine wp_region_here 30 [(0, false), (1, false), (2, false), (3, false), (4, false), (5, false), (6, false), (7, false), (8, false), (9, false), (10, false), (11, false), (12, false), (13, false), (14, false), (15, false), (16, false), (17, false), (18, false), (19, false), (20, false), (21, false), (22, false), (23, false), (24, false), (25, false), (26, false), (27, false), (28, false), (29, false)] (fun _ => .cells #[] 0) (by kernel_rfl) (by kernel_rfl) ?_
            repeat (first | (refine wpP_q rfl rfl rfl ?_; apply Exists.intro; refine ⟨fun w' hw' => ?_, fun K hK => ?_⟩; (focus ((have q0 := keepB HX.out hw'; have q1 := keepB HY.out hw'; have j0 := cellAt (o := 0) q0 rfl; have j1 := cellAt (o := 1) q0 rfl; have j2 := cellAt (o := 0) q1 rfl; have j3 := cellAt (o := 1) q1 rfl; have j4 := (Below.cell hw' HLT.out).trans HCE.out; clear q0 q1); go_simp; first | exact quiet_value | first | with_reducible exact quiet_enter (CL.out _ hw') | with_reducible exact quiet_enter (C1.out _ hw') | with_reducible exact quiet_enter (C2.out _ hw'))); simp only [Act.put, List.setIfInBounds_toArray, List.set_cons_zero, List.set_cons_succ]; refine hK.out _ ?_; clear hK K) | (refine wpP_skip rfl rfl rfl (fun K hK => ?_); simp only [Act.put, List.setIfInBounds_toArray, List.set_cons_zero, List.set_cons_succ]; refine hK.out _ ?_; clear hK K))
            refine wpP_nil ?_
            intro w10 hb10
            replace HBW := Lib.hid (HBW.out.trans (hb10.mono HBW.out.size))
            replace HT := Lib.hid (HT.out.below hb10)
            clear hb10
            try simp only [List.drop_succ_cons, List.drop_nil]
            go_wp2_with fail
            go_roundw
            case rel => exact ⟨k + 1, σ', HX0.out, by go_num, HF1, HT, HBW⟩
            case measure =>
              have h1 := HX0.out
              have h2 := HL.out
              simp [intOf]; omega
        case true =>
          obtain ⟨t, ht⟩ : ∃ t, t = by_ + σ.time := ⟨_, rfl⟩
          have hw : IntKind.i64.wrap (by_ + σ.time) = t := by
            have h1 := HF.out.fit.t0
            have h2 := HF.out.fit.t1
            simp at hd1 hd2
            rw [IntKind.wrap_i64]; omega
          clear ht
          go_wp2_with fail
          refine HT.out.tim2.mono ?_
          rintro e w5 ⟨rfl, hb⟩
          replace HT := Lib.hid (HT.out.below hb)
          replace HBW := Lib.hid (HBW.out.trans (hb.mono HBW.out.size))
          clear hb c0 c1 c2
          obtain ⟨c0, c1, c2⟩ := HCL.out _ HBW.out
          cases isgo
          case false =>
            obtain ⟨x, σ', hq⟩ : ∃ x σ', stPush span σ (t) n = (x, σ') := ⟨_, _, rfl⟩
            have HQ := Lib.hid hq
            clear hq
            go_wp2_with fail
            clear c0 c1 c2
            refine wp_region_two 17 [(0, false), (1, false), (2, false), (3, false), (4, false), (5, false), (6, false), (8, false), (9, false), (10, false), (11, false), (12, false), (13, false), (14, false), (7, true), (15, true), (16, false)] [] [] rfl (Below w.heap.size w) (fun W => Duo W w1.heap.size fn span s r σ σ) (by kernel_rfl) (by kernel_rfl) (Stab.below _ _ (Nat.le_refl _)) (fun _ _ h hb => h.below hb) ((HBW.out).drew) (HT.out.below (Below.refl _ _).drew) ?_
            repeat (first | (refine wt_q rfl rfl ?_; apply Exists.intro; refine ⟨fun w' hw' => ?_, fun K hK => ?_⟩; (focus ((obtain ⟨c0, c1, c2⟩ := HCL.out _ hw'); go_simp; first | exact quiet_value | fail)); simp only [Act.put, List.setIfInBounds_toArray, List.set_cons_zero, List.set_cons_succ]; refine hK.out _ ?_; clear hK K) | (refine wt_skip rfl rfl (fun K hK => ?_); simp only [Act.put, List.setIfInBounds_toArray, List.set_cons_zero, List.set_cons_succ]; refine hK.out _ ?_; clear hK K))
            refine wt_step rfl (fun u _ => u = .int .i64 x) (fun _ W => Duo W w1.heap.size fn span s r σ' σ) (fun _ _ _ h _ => h) (fun _ _ _ h hb => h.below hb) rfl rfl (fun w' hc hd => ?_) (fun K hK v => ?_)
            focus
              have HC := Lib.hid hc
              have HDD := Lib.hid hd
              clear hc hd
              go_simp
              refine st_enter ?_
              exact (HDD.out.push1 HF.out (by have := HL.out; omega) HS.out (t) n HN.out HQ.out).mono fun _ _ h => ⟨_, h.1, HC.out.trans (h.2.2.mono HB1.out), rfl, h.2.1⟩
            simp only [Act.put, List.setIfInBounds_toArray, List.set_cons_zero, List.set_cons_succ]
            refine hK.out _ _ _ ?_
            clear hK K
            refine wt_step rfl (fun u _ => u = .int .i64 x) (fun _ W => Duo W w1.heap.size fn span s r σ' σ') (fun _ _ _ h _ => h) (fun _ _ _ h hb => h.below hb) rfl rfl (fun w' hc hd => ?_) (fun K hK v2 => ?_)
            focus
              have HC := Lib.hid hc
              have HDD := Lib.hid hd
              clear hc hd
              go_simp
              refine st_enter ?_
              exact (HDD.out.push2 HF.out (by have := HL.out; omega) HS.out (t) n HN.out HQ.out).mono fun _ _ h => ⟨_, h.1, ⟨HC.out.1.trans (h.2.2.mono HB1.out), HC.out.2⟩, rfl, h.2.1⟩
            simp only [Act.put, List.setIfInBounds_toArray, List.set_cons_zero, List.set_cons_succ]
            refine hK.out _ _ _ ?_
            clear hK K
            repeat (first | (refine wt_q rfl rfl ?_; apply Exists.intro; refine ⟨fun w' hw' => ?_, fun K hK => ?_⟩; (focus ((skip); go_simp; first | exact quiet_value | fail)); simp only [Act.put, List.setIfInBounds_toArray, List.set_cons_zero, List.set_cons_succ]; refine hK.out _ ?_; clear hK K) | (refine wt_skip rfl rfl (fun K hK => ?_); simp only [Act.put, List.setIfInBounds_toArray, List.set_cons_zero, List.set_cons_succ]; refine hK.out _ ?_; clear hK K))
            refine wt_nil ?_
            rintro w7 ⟨⟨hb7, rfl⟩, rfl⟩ ht7
            replace HBW := Lib.hid hb7
            replace HT := Lib.hid ht7
            have HF1 : Hid (Fine σ' (k + 1)) := Lib.hid (by have h := HF.out.push (span := span) (by have := HL.out; omega) (t) n HN.out; rw [HQ.out] at h; exact h)
            clear hb7 ht7
            try simp only [List.drop_succ_cons]
            obtain ⟨vn, vo, vi, hv⟩ := vvV_form fn σ'.pts
            have HV := Lib.hid hv
            clear hv
            go_wp2_with fail
            refine (HT.out.val1 HF1.out (by have := HL.out; omega) _ HV.out).mono ?_
            rintro e w8 ⟨rfl, hb⟩
            have HX := Lib.hid (newB w8 (.cells #[.int .i64 vn, .bool vo] 25))
            have hb2 := hb.trans ((below_alloc (Below.refl w8.heap.size w8) (.cells #[.int .i64 vn, .bool vo] 25)).mono hb.size)
            replace HBW := Lib.hid (HBW.out.trans (hb2.mono HBW.out.size))
            replace HT := Lib.hid (HT.out.below hb2)
            clear hb hb2
            go_wp2_with fail
            refine (HT.out.val2 HF1.out (by have := HL.out; omega) HFN.out _ HV.out).mono ?_
            rintro e w9 ⟨rfl, hb⟩
            have HY := Lib.hid (newB w9 (.cells #[.int .i64 vn, .bool vo] 25))
            have hb2 := hb.trans ((below_alloc (Below.refl w9.heap.size w9) (.cells #[.int .i64 vn, .bool vo] 25)).mono hb.size)
            replace HBW := Lib.hid (HBW.out.trans (hb2.mono HBW.out.size))
            replace HT := Lib.hid (HT.out.below hb2)
            replace HX := Lib.hid (keepB HX.out hb2)
            clear hb hb2
            obtain ⟨A9, c9, hcell, hlt, _, _⟩ := HT.out.pts2
            have HCE := Lib.hid hcell
            have HLT := Lib.hid hlt
            have CL := Lib.hid (fun W hb => (HT.out.below (w' := W) hb).len1)
            have C1 := Lib.hid (fun W hb => (HT.out.below (w' := W) hb).tim1)
            have C2 := Lib.hid (fun W hb => (HT.out.below (w' := W) hb).tim2)
            clear hcell hlt
            go_wp2_with fail
            generalize w9.alloc (.cells #[.int .i64 vn, .bool vo] 25) = wa at *
            refine wp_region_here 30 [(0, false), (1, false), (2, false), (3, false), (4, false), (5, false), (6, false), (7, false), (8, false), (9, false), (10, false), (11, false), (12, false), (13, false), (14, false), (15, false), (16, false), (17, false), (18, false), (19, false), (20, false), (21, false), (22, false), (23, false), (24, false), (25, false), (26, false), (27, false), (28, false), (29, false)] (fun _ => .cells #[] 0) (by kernel_rfl) (by kernel_rfl) ?_
            repeat (first | (refine wpP_q rfl rfl rfl ?_; apply Exists.intro; refine ⟨fun w' hw' => ?_, fun K hK => ?_⟩; (focus ((have q0 := keepB HX.out hw'; have q1 := keepB HY.out hw'; have j0 := cellAt (o := 0) q0 rfl; have j1 := cellAt (o := 1) q0 rfl; have j2 := cellAt (o := 0) q1 rfl; have j3 := cellAt (o := 1) q1 rfl; have j4 := (Below.cell hw' HLT.out).trans HCE.out; clear q0 q1); go_simp; first | exact quiet_value | first | with_reducible exact quiet_enter (CL.out _ hw') | with_reducible exact quiet_enter (C1.out _ hw') | with_reducible exact quiet_enter (C2.out _ hw'))); simp only [Act.put, List.setIfInBounds_toArray, List.set_cons_zero, List.set_cons_succ]; refine hK.out _ ?_; clear hK K) | (refine wpP_skip rfl rfl rfl (fun K hK => ?_); simp only [Act.put, List.setIfInBounds_toArray, List.set_cons_zero, List.set_cons_succ]; refine hK.out _ ?_; clear hK K))
            refine wpP_nil ?_
            intro w10 hb10
            replace HBW := Lib.hid (HBW.out.trans (hb10.mono HBW.out.size))
            replace HT := Lib.hid (HT.out.below hb10)
            clear hb10
            try simp only [List.drop_succ_cons, List.drop_nil]
            go_wp2_with fail
            go_roundw
            case rel => exact ⟨k + 1, σ', HX0.out, by go_num, HF1, HT, HBW⟩
            case measure =>
              have h1 := HX0.out
              have h2 := HL.out
              simp [intOf]; omega
          case true =>
            obtain ⟨x, σ', hq⟩ : ∃ x σ', stGo span σ (t) = (x, σ') := ⟨_, _, rfl⟩
            have HQ := Lib.hid hq
            clear hq
            go_wp2_with fail
            refine (HT.out.go1 HF.out (by have := HL.out; omega) HS.out (t) HQ.out).mono ?_
            rintro e w6 ⟨rfl, ht, hb⟩
            replace HBW := Lib.hid (HBW.out.trans (hb.mono HB1.out))
            replace HT := Lib.hid ht
            clear ht hb c0 c1 c2
            go_wp2_with fail
            refine (HT.out.go2 HF.out HS.out (t) HQ.out).mono ?_
            rintro e w7 ⟨rfl, ht, hb⟩
            replace HBW := Lib.hid (HBW.out.trans (hb.mono HB1.out))
            replace HT := Lib.hid ht
            clear ht hb
            have HF1 : Hid (Fine σ' (k + 1)) := Lib.hid (by have h := (HF.out.go (span := span) (t)).le (Nat.le_succ k); rw [HQ.out] at h; exact h)
            obtain ⟨vn, vo, vi, hv⟩ := vvV_form fn σ'.pts
            have HV := Lib.hid hv
            clear hv
            go_wp2_with fail
            refine (HT.out.val1 HF1.out (by have := HL.out; omega) _ HV.out).mono ?_
            rintro e w8 ⟨rfl, hb⟩
            have HX := Lib.hid (newB w8 (.cells #[.int .i64 vn, .bool vo] 25))
            have hb2 := hb.trans ((below_alloc (Below.refl w8.heap.size w8) (.cells #[.int .i64 vn, .bool vo] 25)).mono hb.size)
            replace HBW := Lib.hid (HBW.out.trans (hb2.mono HBW.out.size))
            replace HT := Lib.hid (HT.out.below hb2)
            clear hb hb2
            go_wp2_with fail
            refine (HT.out.val2 HF1.out (by have := HL.out; omega) HFN.out _ HV.out).mono ?_
            rintro e w9 ⟨rfl, hb⟩
            have HY := Lib.hid (newB w9 (.cells #[.int .i64 vn, .bool vo] 25))
            have hb2 := hb.trans ((below_alloc (Below.refl w9.heap.size w9) (.cells #[.int .i64 vn, .bool vo] 25)).mono hb.size)
            replace HBW := Lib.hid (HBW.out.trans (hb2.mono HBW.out.size))
            replace HT := Lib.hid (HT.out.below hb2)
            replace HX := Lib.hid (keepB HX.out hb2)
            clear hb hb2
            obtain ⟨A9, c9, hcell, hlt, _, _⟩ := HT.out.pts2
            have HCE := Lib.hid hcell
            have HLT := Lib.hid hlt
            have CL := Lib.hid (fun W hb => (HT.out.below (w' := W) hb).len1)
            have C1 := Lib.hid (fun W hb => (HT.out.below (w' := W) hb).tim1)
            have C2 := Lib.hid (fun W hb => (HT.out.below (w' := W) hb).tim2)
            clear hcell hlt
            go_wp2_with fail
            generalize w9.alloc (.cells #[.int .i64 vn, .bool vo] 25) = wa at *
            refine wp_region_here 30 [(0, false), (1, false), (2, false), (3, false), (4, false), (5, false), (6, false), (7, false), (8, false), (9, false), (10, false), (11, false), (12, false), (13, false), (14, false), (15, false), (16, false), (17, false), (18, false), (19, false), (20, false), (21, false), (22, false), (23, false), (24, false), (25, false), (26, false), (27, false), (28, false), (29, false)] (fun _ => .cells #[] 0) (by kernel_rfl) (by kernel_rfl) ?_
            repeat (first | (refine wpP_q rfl rfl rfl ?_; apply Exists.intro; refine ⟨fun w' hw' => ?_, fun K hK => ?_⟩; (focus ((have q0 := keepB HX.out hw'; have q1 := keepB HY.out hw'; have j0 := cellAt (o := 0) q0 rfl; have j1 := cellAt (o := 1) q0 rfl; have j2 := cellAt (o := 0) q1 rfl; have j3 := cellAt (o := 1) q1 rfl; have j4 := (Below.cell hw' HLT.out).trans HCE.out; clear q0 q1); go_simp; first | exact quiet_value | first | with_reducible exact quiet_enter (CL.out _ hw') | with_reducible exact quiet_enter (C1.out _ hw') | with_reducible exact quiet_enter (C2.out _ hw'))); simp only [Act.put, List.setIfInBounds_toArray, List.set_cons_zero, List.set_cons_succ]; refine hK.out _ ?_; clear hK K) | (refine wpP_skip rfl rfl rfl (fun K hK => ?_); simp only [Act.put, List.setIfInBounds_toArray, List.set_cons_zero, List.set_cons_succ]; refine hK.out _ ?_; clear hK K))
            refine wpP_nil ?_
            intro w10 hb10
            replace HBW := Lib.hid (HBW.out.trans (hb10.mono HBW.out.size))
            replace HT := Lib.hid (HT.out.below hb10)
            clear hb10
            try simp only [List.drop_succ_cons, List.drop_nil]
            go_wp2_with fail
            go_roundw
            case rel => exact ⟨k + 1, σ', HX0.out, by go_num, HF1, HT, HBW⟩
            case measure =>
              have h1 := HX0.out
              have h2 := HL.out
              simp [intOf]; omega
    · have e0 : ¬ (k : Int) < (l.length : Int) := by omega
      have HF1 := Lib.hid (HF.out.le (show k ≤ 300 by have := HL.out; omega))
      obtain ⟨A9, c9, hcell, hlt, hrp, hfl⟩ := HT.out.pts2
      have HCE := Lib.hid hcell
      have HLT := Lib.hid hlt
      have HPV : Hid (PvR σ.pts (.slice A9 σ.pts.length c9) wr) := Lib.hid ⟨A9, c9, rfl, hrp, hfl⟩
      have HLP : Hid (σ.pts.length ≤ 1099511627776) := Lib.hid (Nat.le_trans HF1.out.len (by omega))
      clear hcell hlt hrp hfl HF
      go_wp2_with fail
      refine wp_region_two 20 [(0, false), (1, false), (2, false), (3, false), (5, false), (6, false), (7, false), (8, false), (4, true), (9, false), (10, false), (11, false), (14, false), (12, true), (13, false), (15, true), (16, false), (17, false), (18, false), (19, false)] [] [] rfl (Below wr.heap.size wr) (fun _ => True) (by kernel_rfl) (by kernel_rfl) (Stab.below _ _ (Nat.le_refl _)) (fun _ _ _ _ => True.intro) ((Below.refl _ _).drew) True.intro ?_
      repeat (first | (refine wt_q rfl rfl ?_; apply Exists.intro; refine ⟨fun w' hw' => ?_, fun K hK => ?_⟩; (focus ((have j4 := (Below.cell hw' HLT.out).trans HCE.out); go_simp; first | exact quiet_value | fail)); simp only [Act.put, List.setIfInBounds_toArray, List.set_cons_zero, List.set_cons_succ]; refine hK.out _ ?_; clear hK K) | (refine wt_skip rfl rfl (fun K hK => ?_); simp only [Act.put, List.setIfInBounds_toArray, List.set_cons_zero, List.set_cons_succ]; refine hK.out _ ?_; clear hK K))
      refine wt_step rfl (PvR σ.pts) (fun _ => Triv) (PvR.stab _) (fun _ _ _ _ _ => triv _) rfl rfl (fun w' hc hd => ?_) (fun K hK v => ?_)
      focus
        have HC := Lib.hid hc
        clear hc hd
        go_simp
        refine st_enter ?_
        exact pts_step ((HT.out.below HC.out).points HLP.out) (fun W hb => HC.out.trans (hb.mono HC.out.size))
      simp only [Act.put, List.setIfInBounds_toArray, List.set_cons_zero, List.set_cons_succ]
      refine hK.out _ _ _ ?_
      clear hK K
      repeat (first | (refine wt_q rfl rfl ?_; apply Exists.intro; refine ⟨fun w' hw' => ?_, fun K hK => ?_⟩; (focus ((have hp2 := PvR.stab _ _ _ _ HPV.out hw'.1); go_simp; first | exact quiet_value | with_reducible exact quiet_enter (kp_quiet hw'.2 hp2 HLP.out))); simp only [Act.put, List.setIfInBounds_toArray, List.set_cons_zero, List.set_cons_succ]; refine hK.out _ ?_; clear hK K) | (refine wt_skip rfl rfl (fun K hK => ?_); simp only [Act.put, List.setIfInBounds_toArray, List.set_cons_zero, List.set_cons_succ]; refine hK.out _ ?_; clear hK K))
      refine wt_step rfl (RVb (slB fn span σ.time σ.pts)) (fun _ => Triv) (RVb.stab _) (fun _ _ _ _ _ => triv _) rfl rfl (fun w' hc hd => ?_) (fun K hK v3 => ?_)
      focus
        have HC := Lib.hid hc
        clear hc hd
        go_simp
        refine st_enter ?_
        exact byt_step (C := fun W => Below wr.heap.size wr W ∧ PvR σ.pts v W) ((HT.out.below HC.out.1).bytes1 HF1.out (by omega) HK.out) (fun W hb => ⟨HC.out.1.trans (hb.mono HC.out.1.size), PvR.stab _ _ _ _ HC.out.2 hb⟩)
      simp only [Act.put, List.setIfInBounds_toArray, List.set_cons_zero, List.set_cons_succ]
      refine hK.out _ _ _ ?_
      clear hK K
      repeat (first | (refine wt_q rfl rfl ?_; apply Exists.intro; refine ⟨fun w' hw' => ?_, fun K hK => ?_⟩; (focus ((have qv := RVb.conv hw'.2); go_simp; first | exact quiet_value | fail)); simp only [Act.put, List.setIfInBounds_toArray, List.set_cons_zero, List.set_cons_succ]; refine hK.out _ ?_; clear hK K) | (refine wt_skip rfl rfl (fun K hK => ?_); simp only [Act.put, List.setIfInBounds_toArray, List.set_cons_zero, List.set_cons_succ]; refine hK.out _ ?_; clear hK K))
      refine wt_step rfl (RVb (slB fn span σ.time σ.pts)) (fun _ => Triv) (RVb.stab _) (fun _ _ _ _ _ => triv _) rfl rfl (fun w' hc hd => ?_) (fun K hK v4 => ?_)
      focus
        have HC := Lib.hid hc
        clear hc hd
        go_simp
        refine st_enter ?_
        exact byt_step (C := fun W => (Below wr.heap.size wr W ∧ PvR σ.pts v W) ∧ RVb (slB fn span σ.time σ.pts) v3 W) ((HT.out.below HC.out.1.1).bytes2 HF1.out (by omega) HK.out) (fun W hb => ⟨⟨HC.out.1.1.trans (hb.mono HC.out.1.1.size), PvR.stab _ _ _ _ HC.out.1.2 hb⟩, RVb.stab _ _ _ _ HC.out.2 hb⟩)
      simp only [Act.put, List.setIfInBounds_toArray, List.set_cons_zero, List.set_cons_succ]
      refine hK.out _ _ _ ?_
      clear hK K
      repeat (first | (refine wt_q rfl rfl ?_; apply Exists.intro; refine ⟨fun w' hw' => ?_, fun K hK => ?_⟩; (focus ((have qv := RVb.conv hw'.2); go_simp; first | exact quiet_value | fail)); simp only [Act.put, List.setIfInBounds_toArray, List.set_cons_zero, List.set_cons_succ]; refine hK.out _ ?_; clear hK K) | (refine wt_skip rfl rfl (fun K hK => ?_); simp only [Act.put, List.setIfInBounds_toArray, List.set_cons_zero, List.set_cons_succ]; refine hK.out _ ?_; clear hK K))
      refine wt_nil ?_
      rintro w12 ⟨⟨⟨hb, _⟩, _⟩, _⟩ _
      have HE := Lib.hid (HBW.out.trans (hb.mono HBW.out.size))
      clear hb
      try simp only [List.drop_succ_cons, List.drop_zero]
      go_wp2_with fail
      go_ret
      exact ⟨rfl, HE.out⟩
theorem script_any (fn span : Int) (A : Option Addr) (l : List ActV) (cap : Nat) (w : World) (hA : RAct w A l) (hl : ∀ a ∈ l, In64 a.2.1 ∧ In64 a.2.2) :
    Calls Try.prog 5 #[.int .i64 fn, .int .i64 span, .slice A l.length cap] w fun e w' => e = .returned (.bool true) ∧ Below w.heap.size w w' := by
  by_cases hk : okNew fn span
  · exact script_yes fn span A l cap w hA hl hk
  · exact script_no fn span A l cap w hk
end Go.Proofs.Ytbhkgnhgecchcaa
