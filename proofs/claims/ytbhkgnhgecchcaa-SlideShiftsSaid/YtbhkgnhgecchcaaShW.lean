/- SlideShifts, walked. -/
import Derived.Test.YtbhkgnhgecchcaaShL
import Derived.Test.YtbhkgnhgecchcaaOpA
namespace Go.Proofs.Ytbhkgnhgecchcaa
open Go.RowKit
set_option maxHeartbeats 8000000 in
set_option maxRecDepth 100000 in
theorem shifts_any (fn span shift half : Int) (A : Option Addr) (l : List ActV) (cap : Nat) (w : World) (hA : RAct w A l) (hl : ∀ a ∈ l, In64 a.2.1 ∧ In64 a.2.2) :
    Calls Try.prog 4 #[.int .i64 fn, .int .i64 span, .slice A l.length cap, .int .i64 shift, .int .i64 half] w fun e w' => e = .returned (.bool true) ∧ Below w.heap.size w w' := by
  have HA := Lib.hid hA
  have HLL := Lib.hid hl
  clear hA hl
  go_enter Try.func4, Try.ntmps4
  go_wp2_with fail
  refine (lives_any w).mono ?_
  rintro e w1 ⟨rfl, hb⟩
  have HB := Lib.hid hb
  clear hb
  by_cases h1 : (300 : Int) < (l.length : Int)
  · go_wp2_with fail
    go_ret
    exact ⟨rfl, HB.out⟩
  by_cases h2 : shift < 0
  · go_wp2_with fail
    go_ret
    exact ⟨rfl, HB.out⟩
  by_cases h3 : 1073741824 < shift
  · go_wp2_with fail
    go_ret
    exact ⟨rfl, HB.out⟩
  by_cases h4 : half < 0
  · go_wp2_with fail
    go_ret
    exact ⟨rfl, HB.out⟩
  by_cases h5 : 1000 < half
  · go_wp2_with fail
    go_ret
    exact ⟨rfl, HB.out⟩
  by_cases hk : okNew fn span
  case neg =>
    have CN := Lib.hid (fun W => (snew_any fn span W).mono fun e w' (h : NewP fn span W e w') => show e = .returned (.tuple #[.pointer none, .int .i64 2]) ∧ Below W.heap.size W w' from h.elim (fun h => absurd h.1 hk) (fun h => h.2))
    go_wp2_with fail
    refine (CN.out _).mono ?_
    rintro e w2 ⟨rfl, hb⟩
    replace HB := Lib.hid (HB.out.trans (hb.mono HB.out.size))
    clear hb
    go_wp2_with fail
    refine (CN.out _).mono ?_
    rintro e w3 ⟨rfl, hb⟩
    replace HB := Lib.hid (HB.out.trans (hb.mono HB.out.size))
    clear hb
    go_wp2_with fail
    refine (CN.out _).mono ?_
    rintro e w4 ⟨rfl, hb⟩
    replace HB := Lib.hid (HB.out.trans (hb.mono HB.out.size))
    clear hb
    go_wp2_with fail
    go_ret
    exact ⟨rfl, HB.out⟩
  case pos =>
    have HS : Hid (1 ≤ span ∧ span ≤ 1073741824) := Lib.hid hk.2
    have HK := Lib.hid hk
    have HL : Hid (l.length ≤ 300) := Lib.hid (by omega)
    have HD : Hid (0 ≤ shift ∧ shift ≤ 1073741824) := Lib.hid (by omega)
    have HH : Hid (0 ≤ half ∧ half ≤ 1000) := Lib.hid (by omega)
    clear hk
    go_wp2_with fail
    refine (new_b HK.out _).mono ?_
    rintro e w2 ⟨a, F, rfl, ha, hba⟩
    have HSA := Lib.hid ha
    have HBA := Lib.hid (HB.out.trans (hba.mono HB.out.size))
    clear ha hba
    go_wp2_with fail
    refine (new_b HK.out _).mono ?_
    rintro e w3 ⟨b, G, rfl, hb, hbb⟩
    have HSB := Lib.hid hb
    have HSA2 := Lib.hid (HSA.out.below hbb)
    have HBB := Lib.hid (HBA.out.trans (hbb.mono HBA.out.size))
    clear hb hbb
    go_wp2_with fail
    refine (new_b HK.out _).mono ?_
    rintro e w4 ⟨c, H, rfl, hc, hbc⟩
    have HT : Hid (Tri w4 w1.heap.size fn span b c a ⟨0, [], 0⟩ ⟨0, [], 0⟩ ⟨0, [], 0⟩) := Lib.hid ((Tri.mk (HSA2.out.below hbc) (HSB.out.below hbc) hc HSA.out.hi HSA.out.le HSB.out.hi HSB.out.le).rot)
    have HBC := Lib.hid (HBB.out.trans (hbc.mono HBB.out.size))
    have HB1 := Lib.hid HB.out.size
    clear hc hbc HSA HSB HSA2 HB HBA HBB
    go_wp2_with fail
    refine (HT.out.go Fine.zero (by omega) HS.out shift (by have := HD.out; omega) (by have := HD.out; omega) (by have := HD.out; simp only; omega)).mono ?_
    rintro e w5 ⟨rfl, ht, hb⟩
    have HB := Lib.hid (HBC.out.trans (hb.mono HB1.out))
    have HT5 : Hid (Tri w5 w1.heap.size fn span a b c ⟨0, [], 0⟩ (shS shift ⟨0, [], 0⟩) ⟨0, [], 0⟩) := Lib.hid (by
      have h := ht.rot.rot
      have e : aftG span ⟨0, [], 0⟩ shift = shS shift ⟨0, [], 0⟩ := by simp [aftG, shS, gone, shP]
      rwa [e] at h)
    clear ht hb HT HBC
    go_wp2_with fail
    go_loopw [18, 17] (fun y tv wr => ∃ (k : Nat) (t : Int) (σ : Slst), k ≤ l.length ∧ y = .int .i64 k ∧ tv = .int .i64 t ∧ Hid (σ.time = t ∧ 0 ≤ t ∧ t ≤ 1000 * k) ∧ Hid (Fine σ k) ∧ Hid (Tri wr w1.heap.size fn span a b c σ (shS shift σ) σ) ∧ Hid (Below w.heap.size w wr)) (fun y _ _ => l.length - (intOf y).toNat)
    case atStart => exact ⟨0, 0, ⟨0, [], 0⟩, Nat.zero_le _, rfl, rfl, Lib.hid ⟨rfl, by omega, by omega⟩, Lib.hid Fine.zero, HT5, HB⟩
    case round =>
      obtain ⟨k, t, σ, hk, rfl, rfl, HTM, HF, HT, HBW⟩ := hrel
      clear HT5 HB
      by_cases h0 : k < l.length
      · have e0 : (k : Int) < (l.length : Int) := by omega
        have HX0 := Lib.hid h0
        obtain ⟨ad, rfl, _, _⟩ := HA.out (by omega)
        have HCL : Hid (∀ W, Below w.heap.size w W → W.cell? { block := (ad.add (k * 3)).block, off := (ad.add (k * 3)).off + 1 } = some (.int .i64 l[k].2.1) ∧ W.cell? { block := (ad.add (k * 3)).block, off := (ad.add (k * 3)).off + 2 } = some (.int .i64 l[k].2.2)) := Lib.hid (fun W hb => by
          obtain ⟨ad', e, _, h⟩ := HA.out.below hb (by omega)
          cases e
          exact (h.at_ k h0).2)
        obtain ⟨c1, c2⟩ := HCL.out _ HBW.out
        obtain ⟨n1, n2⟩ := HLL.out l[k] (List.getElem_mem h0)
        generalize l[k].2.1 = by_ at *
        generalize l[k].2.2 = n at *
        have HN := Lib.hid n2
        have HN1 := Lib.hid n1
        clear n1 n2
        go_wp2_with fail
        refine (pick_any _ 1000 ?P1 (by omega) _).mono ?P2
        case P1 =>
          have q1 := Int.tmod_lt_of_pos by_ (show (0 : Int) < 1000 by omega)
          have q2 : -1000 < by_.tmod 1000 := by
            have := Int.tmod_lt_of_pos (-by_) (show (0 : Int) < 1000 by omega)
            rw [Int.neg_tmod] at this; omega
          unfold In64; omega
        case P2 =>
          rintro e w6 ⟨r, rfl, hr1, hr2, rfl⟩
          have HR := Lib.hid (And.intro hr1 hr2)
          obtain ⟨u, hu⟩ : ∃ u, u = t + 1 + r := ⟨_, rfl⟩
          have HU : Hid (σ.time < u ∧ 1 ≤ u ∧ u ≤ 1000 * (k + 1)) := Lib.hid (by have := HTM.out; have := HR.out; omega)
          have eu : wrap64 (wrap64 (t + 1) + r) = u := by
            have := HTM.out; have := HR.out; have := HL.out
            unfold wrap64; omega
          clear hu
          go_wp2_with fail
          rw [eu]
          clear HTM HR eu
          have hw3 : IntKind.i64.wrap (u + shift) = u + shift := by have := HU.out; have := HD.out; rw [IntKind.wrap_i64]; have := HL.out; omega
          have HUD : Hid (u + shift ≤ 1099511627776) := Lib.hid (by have := HU.out; have := HD.out; have := HL.out; omega)
          have HF1 := Lib.hid (HF.out.sh (d := shift) HD.out.1 (by have := HU.out; have := HUD.out; omega))
          have HA1 := Lib.hid (HF.out.aftP (span := span) (t := u) (n := n) (by have := HL.out; omega) HN.out HU.out.2.1 (by have := HUD.out; have := HD.out; omega) HU.out.1)
          refine (HT.out.push HF.out (by have := HL.out; omega) HS.out u n HN.out HU.out.2.1 (by have := HUD.out; have := HD.out; omega) HU.out.1).mono ?_
          rintro e w7 ⟨rfl, ht, hb⟩
          replace HBW := Lib.hid (HBW.out.trans (hb.mono HB1.out))
          replace HT := Lib.hid ht.rot
          clear c1 c2
          have c2 := (HCL.out _ HBW.out).2
          clear ht hb
          go_wp2_with fail
          refine (HT.out.push HF1.out (by have := HL.out; omega) HS.out (u + shift) n HN.out (by have := HU.out; have := HD.out; omega) HUD.out (by have := HU.out; simp only [shS]; omega)).mono ?_
          rintro e w8 ⟨rfl, ht, hb⟩
          rw [aftP_sh] at ht
          replace HBW := Lib.hid (HBW.out.trans (hb.mono HB1.out))
          replace HT := Lib.hid ht.rot
          clear c2
          have c2 := (HCL.out _ HBW.out).2
          clear ht hb
          go_wp2_with fail
          refine (HT.out.push HF.out (by have := HL.out; omega) HS.out u n HN.out HU.out.2.1 (by have := HUD.out; have := HD.out; omega) HU.out.1).mono ?_
          rintro e w9 ⟨rfl, ht, hb⟩
          replace HBW := Lib.hid (HBW.out.trans (hb.mono HB1.out))
          replace HT := Lib.hid ht.rot
          clear ht hb c2
          have HT9 := Lib.hid (show (aftP span σ u n).time = u from rfl)
          generalize aftP span σ u n = σ' at *
          obtain ⟨vn, vo, vi, hv⟩ := vvV_form fn σ'.pts
          have HV := Lib.hid hv
          have HV2 : Hid (vvV fn (shS shift σ').pts = .tuple #[.agg #[.int .i64 vn, .bool vo], .bool vi]) := Lib.hid (by rw [← hv]; exact vvV_sh)
          have HA2 := Lib.hid (HA1.out.sh (d := shift) HD.out.1 (by have := HT9.out; have := HUD.out; omega))
          clear hv HF HF1 hw3
          go_wp2_with fail
          refine (HT.out.value HA1.out (by have := HL.out; omega) _ HV.out).mono ?_
          rintro e w10 ⟨rfl, hb⟩
          have HX := Lib.hid (newB w10 (.cells #[.int .i64 vn, .bool vo] 25))
          have hb2 := hb.trans ((below_alloc (Below.refl w10.heap.size w10) (.cells #[.int .i64 vn, .bool vo] 25)).mono hb.size)
          replace HBW := Lib.hid (HBW.out.trans (hb2.mono HBW.out.size))
          replace HT := Lib.hid (HT.out.below hb2)
          clear hb hb2
          go_wp2_with fail
          refine (HT.out.rot.value HA2.out (by have := HL.out; omega) _ HV2.out).mono ?_
          rintro e w11 ⟨rfl, hb⟩
          have HY := Lib.hid (newB w11 (.cells #[.int .i64 vn, .bool vo] 25))
          have hb2 := hb.trans ((below_alloc (Below.refl w11.heap.size w11) (.cells #[.int .i64 vn, .bool vo] 25)).mono hb.size)
          replace HBW := Lib.hid (HBW.out.trans (hb2.mono HBW.out.size))
          replace HT := Lib.hid (HT.out.below hb2)
          replace HX := Lib.hid (keepB HX.out hb2)
          clear hb hb2
          have x0 := cellAt (o := 0) HX.out rfl
          have x1 := cellAt (o := 1) HX.out rfl
          have y0 := cellAt (o := 0) HY.out rfl
          have y1 := cellAt (o := 1) HY.out rfl
          go_wp2_with fail
          refine HT.out.len.mono ?_
          rintro e w12 ⟨rfl, hb⟩
          replace HBW := Lib.hid (HBW.out.trans (hb.mono HBW.out.size))
          replace HT := Lib.hid (HT.out.below hb)
          clear hb x0 x1 y0 y1 HX HY
          go_wp2_with fail
          refine HT.out.rot.len.mono ?_
          rintro e w13 ⟨rfl, hb⟩
          replace HBW := Lib.hid (HBW.out.trans (hb.mono HBW.out.size))
          replace HT := Lib.hid (HT.out.below hb)
          clear hb
          rw [show (shS shift σ').pts.length = σ'.pts.length from shP_len]
          go_wp2_with fail
          refine HT.out.tim.mono ?_
          rintro e w14 ⟨rfl, hb⟩
          rw [HT9.out]
          replace HBW := Lib.hid (HBW.out.trans (hb.mono HBW.out.size))
          replace HT := Lib.hid (HT.out.below hb)
          have hw3 : IntKind.i64.wrap (u + shift) = u + shift := by have := HU.out; have := HD.out; rw [IntKind.wrap_i64]; have := HL.out; omega
          clear hb
          go_wp2_with fail
          refine HT.out.rot.tim.mono ?_
          rintro e w15 ⟨rfl, hb⟩
          rw [show (shS shift σ').time = u + shift from congrArg (· + shift) HT9.out]
          replace HBW := Lib.hid (HBW.out.trans (hb.mono HBW.out.size))
          replace HT := Lib.hid (HT.out.below hb)
          clear hb
          go_wp2_with fail
          go_roundw
          case rel => exact ⟨k + 1, u, σ', HX0.out, by go_num, rfl, Lib.hid ⟨HT9.out, by have := HU.out; omega, by have := HU.out; omega⟩, HA1, HT, HBW⟩
          case measure =>
            have h1 := HX0.out
            have h2 := HL.out
            simp [intOf]; omega
      · have e0 : ¬ (k : Int) < (l.length : Int) := by omega
        have HTU : Hid (0 ≤ t ∧ t ≤ 300000) := Lib.hid (by have := HTM.out; have := HL.out; omega)
        have HTE := Lib.hid HTM.out.1
        have HF2 := Lib.hid (HF.out.le (show k ≤ 300 by have := HL.out; omega))
        clear HTM HF
        have hw1 : IntKind.i64.wrap (t + half) = t + half := by have := HTU.out; have := HH.out; rw [IntKind.wrap_i64]; omega
        have hw2 : IntKind.i64.wrap (t + 1000) = t + 1000 := by have := HTU.out; rw [IntKind.wrap_i64]; omega
        have HF3 := Lib.hid (HF2.out.aftG (span := span) (t := t + half) (by have := HTU.out; have := HH.out; omega) (by have := HTU.out; have := HH.out; omega) (by have := HTE.out; have := HH.out; omega))
        have HF4 := Lib.hid (HF2.out.aftG (span := span) (t := t + 1000) (by have := HTU.out; omega) (by have := HTU.out; omega) (by have := HTE.out; omega))
        go_wp2_with fail
        refine (HT.out.go HF2.out (by omega) HS.out (t + half) (by have := HTU.out; have := HH.out; omega) (by have := HTU.out; have := HH.out; omega) (by have := HTE.out; have := HH.out; omega)).mono ?_
        rintro e w7 ⟨rfl, ht, hb⟩
        replace HBW := Lib.hid (HBW.out.trans (hb.mono HB1.out))
        replace HT := Lib.hid ht
        clear ht hb hw1
        go_wp2_with fail
        refine (HT.out.go HF3.out (by omega) HS.out (t + 1000) (by have := HTU.out; omega) (by have := HTU.out; omega) (by have := HH.out; simp only [aftG]; omega)).mono ?_
        rw [aftG_two (by have := HH.out; omega)]
        rintro e w8 ⟨rfl, ht, hb⟩
        replace HBW := Lib.hid (HBW.out.trans (hb.mono HB1.out))
        replace HT := Lib.hid ht.rot.rot
        clear ht hb HF3
        go_wp2_with fail
        refine (HT.out.go HF2.out (by omega) HS.out (t + 1000) (by have := HTU.out; omega) (by have := HTU.out; omega) (by have := HTE.out; omega)).mono ?_
        rintro e w9 ⟨rfl, ht, hb⟩
        replace HBW := Lib.hid (HBW.out.trans (hb.mono HB1.out))
        replace HT := Lib.hid ht
        clear ht hb hw2 HF2 HTE
        generalize aftG span σ (t + 1000) = σ' at *
        obtain ⟨vn, vo, vi, hv⟩ := vvV_form fn σ'.pts
        have HV := Lib.hid hv
        clear hv
        go_wp2_with fail
        refine (HT.out.rot.value HF4.out (by omega) _ HV.out).mono ?_
        rintro e w10 ⟨rfl, hb⟩
        have HX := Lib.hid (newB w10 (.cells #[.int .i64 vn, .bool vo] 25))
        have hb2 := hb.trans ((below_alloc (Below.refl w10.heap.size w10) (.cells #[.int .i64 vn, .bool vo] 25)).mono hb.size)
        replace HBW := Lib.hid (HBW.out.trans (hb2.mono HBW.out.size))
        replace HT := Lib.hid (HT.out.below hb2)
        clear hb hb2
        go_wp2_with fail
        refine (HT.out.value HF4.out (by omega) _ HV.out).mono ?_
        rintro e w11 ⟨rfl, hb⟩
        have HY := Lib.hid (newB w11 (.cells #[.int .i64 vn, .bool vo] 25))
        have hb2 := hb.trans ((below_alloc (Below.refl w11.heap.size w11) (.cells #[.int .i64 vn, .bool vo] 25)).mono hb.size)
        replace HBW := Lib.hid (HBW.out.trans (hb2.mono HBW.out.size))
        replace HT := Lib.hid (HT.out.below hb2)
        replace HX := Lib.hid (keepB HX.out hb2)
        clear hb hb2
        go_wp2_with fail
        generalize w11.alloc (.cells #[.int .i64 vn, .bool vo] 25) = wa at *
        refine wp_region_two 24 [(0, false), (1, false), (2, false), (3, false), (4, false), (5, false), (6, false), (7, false), (8, false), (9, false), (11, false), (10, true), (12, true), (13, false), (14, false), (15, false), (16, false), (19, false), (17, true), (18, false), (20, true), (21, false), (22, false), (23, false)] [] [] rfl (Below wa.heap.size wa) (fun _ => True) (by kernel_rfl) (by kernel_rfl) (Stab.below _ _ (Nat.le_refl _)) (fun _ _ _ _ => True.intro) ((Below.refl _ _).drew) True.intro ?_
        repeat (first | (refine wt_q rfl rfl ?_; apply Exists.intro; refine ⟨fun w' hw' => ?_, fun K hK => ?_⟩; (focus ((have q0 := keepB HX.out hw'; have q1 := keepB HY.out hw'; have j0 := cellAt (o := 0) q0 rfl; have j1 := cellAt (o := 1) q0 rfl; have j2 := cellAt (o := 0) q1 rfl; have j3 := cellAt (o := 1) q1 rfl; clear q0 q1); go_simp; first | exact quiet_value | fail)); simp only [Act.put, List.setIfInBounds_toArray, List.set_cons_zero, List.set_cons_succ]; refine hK.out _ ?_; clear hK K) | (refine wt_skip rfl rfl (fun K hK => ?_); simp only [Act.put, List.setIfInBounds_toArray, List.set_cons_zero, List.set_cons_succ]; refine hK.out _ ?_; clear hK K))
        refine wt_step rfl (PvR σ'.pts) (fun _ => Triv) (PvR.stab _) (fun _ _ _ _ _ => triv _) rfl rfl (fun w' hc hd => ?_) (fun K hK v => ?_)
        focus
          have HC := Lib.hid hc
          clear hc hd
          go_simp
          refine st_enter ?_
          exact pts_step ((HT.out.rot.below HC.out).points (Nat.le_trans HF4.out.len (by omega))) (fun W hb => HC.out.trans (hb.mono HC.out.size))
        simp only [Act.put, List.setIfInBounds_toArray, List.set_cons_zero, List.set_cons_succ]
        refine hK.out _ _ _ ?_
        clear hK K
        repeat (first | (refine wt_q rfl rfl ?_; apply Exists.intro; refine ⟨fun w' hw' => ?_, fun K hK => ?_⟩; (focus ((have q0 := keepB HX.out hw'.1; clear q0); go_simp; first | exact quiet_value | fail)); simp only [Act.put, List.setIfInBounds_toArray, List.set_cons_zero, List.set_cons_succ]; refine hK.out _ ?_; clear hK K) | (refine wt_skip rfl rfl (fun K hK => ?_); simp only [Act.put, List.setIfInBounds_toArray, List.set_cons_zero, List.set_cons_succ]; refine hK.out _ ?_; clear hK K))
        refine wt_step rfl (PvR σ'.pts) (fun _ => Triv) (PvR.stab _) (fun _ _ _ _ _ => triv _) rfl rfl (fun w' hc hd => ?_) (fun K hK v2 => ?_)
        focus
          have HC := Lib.hid hc
          clear hc hd
          go_simp
          refine st_enter ?_
          exact pts_step (C := fun W => Below wa.heap.size wa W ∧ PvR σ'.pts v W) ((HT.out.below HC.out.1).points (Nat.le_trans HF4.out.len (by omega))) (fun W hb => ⟨HC.out.1.trans (hb.mono HC.out.1.size), PvR.stab _ _ _ _ HC.out.2 hb⟩)
        simp only [Act.put, List.setIfInBounds_toArray, List.set_cons_zero, List.set_cons_succ]
        refine hK.out _ _ _ ?_
        clear hK K
        repeat (first | (refine wt_q rfl rfl ?_; apply Exists.intro; refine ⟨fun w' hw' => ?_, fun K hK => ?_⟩; (focus ((have q0 := keepB HX.out hw'.1.1; clear q0); go_simp; first | exact quiet_value | with_reducible exact quiet_enter (kp_quiet hw'.1.2 hw'.2 (Nat.le_trans HF4.out.len (by omega))))); simp only [Act.put, List.setIfInBounds_toArray, List.set_cons_zero, List.set_cons_succ]; refine hK.out _ ?_; clear hK K) | (refine wt_skip rfl rfl (fun K hK => ?_); simp only [Act.put, List.setIfInBounds_toArray, List.set_cons_zero, List.set_cons_succ]; refine hK.out _ ?_; clear hK K))
        refine wt_step rfl (RVb (slB fn span σ'.time σ'.pts)) (fun _ => Triv) (RVb.stab _) (fun _ _ _ _ _ => triv _) rfl rfl (fun w' hc hd => ?_) (fun K hK v3 => ?_)
        focus
          have HC := Lib.hid hc
          clear hc hd
          go_simp
          refine st_enter ?_
          exact byt_step (C := fun W => (Below wa.heap.size wa W ∧ PvR σ'.pts v W) ∧ PvR σ'.pts v2 W) ((HT.out.rot.below HC.out.1.1).bytes HF4.out (by omega) HK.out) (fun W hb => ⟨⟨HC.out.1.1.trans (hb.mono HC.out.1.1.size), PvR.stab _ _ _ _ HC.out.1.2 hb⟩, PvR.stab _ _ _ _ HC.out.2 hb⟩)
        simp only [Act.put, List.setIfInBounds_toArray, List.set_cons_zero, List.set_cons_succ]
        refine hK.out _ _ _ ?_
        clear hK K
        repeat (first | (refine wt_q rfl rfl ?_; apply Exists.intro; refine ⟨fun w' hw' => ?_, fun K hK => ?_⟩; (focus ((have qv := RVb.conv hw'.2); go_simp; first | exact quiet_value | fail)); simp only [Act.put, List.setIfInBounds_toArray, List.set_cons_zero, List.set_cons_succ]; refine hK.out _ ?_; clear hK K) | (refine wt_skip rfl rfl (fun K hK => ?_); simp only [Act.put, List.setIfInBounds_toArray, List.set_cons_zero, List.set_cons_succ]; refine hK.out _ ?_; clear hK K))
        refine wt_step rfl (RVb (slB fn span σ'.time σ'.pts)) (fun _ => Triv) (RVb.stab _) (fun _ _ _ _ _ => triv _) rfl rfl (fun w' hc hd => ?_) (fun K hK v4 => ?_)
        focus
          have HC := Lib.hid hc
          clear hc hd
          go_simp
          refine st_enter ?_
          exact byt_step (C := fun W => ((Below wa.heap.size wa W ∧ PvR σ'.pts v W) ∧ PvR σ'.pts v2 W) ∧ RVb (slB fn span σ'.time σ'.pts) v3 W) ((HT.out.below HC.out.1.1.1).bytes HF4.out (by omega) HK.out) (fun W hb => ⟨⟨⟨HC.out.1.1.1.trans (hb.mono HC.out.1.1.1.size), PvR.stab _ _ _ _ HC.out.1.1.2 hb⟩, PvR.stab _ _ _ _ HC.out.1.2 hb⟩, RVb.stab _ _ _ _ HC.out.2 hb⟩)
        simp only [Act.put, List.setIfInBounds_toArray, List.set_cons_zero, List.set_cons_succ]
        refine hK.out _ _ _ ?_
        clear hK K
        repeat (first | (refine wt_q rfl rfl ?_; apply Exists.intro; refine ⟨fun w' hw' => ?_, fun K hK => ?_⟩; (focus ((have qv := RVb.conv hw'.2); go_simp; first | exact quiet_value | fail)); simp only [Act.put, List.setIfInBounds_toArray, List.set_cons_zero, List.set_cons_succ]; refine hK.out _ ?_; clear hK K) | (refine wt_skip rfl rfl (fun K hK => ?_); simp only [Act.put, List.setIfInBounds_toArray, List.set_cons_zero, List.set_cons_succ]; refine hK.out _ ?_; clear hK K))
        refine wt_nil ?_
        rintro w12 ⟨⟨⟨⟨hb, _⟩, _⟩, _⟩, _⟩ _
        have HE := Lib.hid (HBW.out.trans (hb.mono HBW.out.size))
        clear hb
        try simp only [List.drop_succ_cons, List.drop_zero]
        go_wp2_with fail
        go_ret
        exact ⟨rfl, HE.out⟩
end Go.Proofs.Ytbhkgnhgecchcaa
