/- SlideReads, walked. -/
import Derived.Test.YtbhkgnhgecchcaaRdX
import Derived.Test.YtbhkgnhgecchcaaRdW
import Derived.Test.YtbhkgnhgecchcaaScL
namespace Go.Proofs.Ytbhkgnhgecchcaa
open Go.RowKit
theorem RdOk.fine {m : Nat} {b : List UInt8} {fn span t : Int} {P : List Pt} (h : RdOk m b fn span t P) : Fine ⟨t, P, P.length⟩ P.length :=
  ⟨⟨h.sane, fun p hp => (h.times p hp).2, h.t0, h.t1⟩, Nat.le_refl _, Nat.le_refl _⟩
set_option maxHeartbeats 8000000 in
set_option maxRecDepth 100000 in
theorem reads_any (A : Option Addr) (c : Nat) (b : List UInt8) (w : World) (hp : Rd w A b) :
    Calls Try.prog 8 #[.slice A b.length c] w fun e w' => e = .returned (.bool true) ∧ Below w.heap.size w w' := by
  have HP := Lib.hid hp
  clear hp
  go_enter Try.func8, Try.ntmps8
  go_wp2_with fail
  refine (lives_any w).mono ?_
  rintro e w1 ⟨rfl, hb⟩
  have HB := Lib.hid hb
  clear hb
  by_cases h1 : (3000 : Int) < (b.length : Int)
  · go_wp2_with fail
    go_ret
    exact ⟨rfl, HB.out⟩
  have HL : Hid (b.length ≤ 3000) := Lib.hid (by omega)
  have CO := Lib.hid (own_any A c b w1 (HP.out.below HB.out) (by have := HL.out; omega))
  obtain ⟨o, ho⟩ : ∃ o, rdSl b.length b = o := ⟨_, rfl⟩
  have ho2 : rdSl 2147483647 b = o := by rw [← ho]; exact (rdSl_cnt (by have := HL.out; omega)).symm
  have HOE := Lib.hid ho
  have HO2 := Lib.hid ho2
  clear ho ho2
  go_wp2_with fail
  refine CO.out.mono ?_
  intro e w2 hf
  obtain ⟨A2, c2, rfl, _, _, hr2, _, hb2⟩ := hf.read
  have HB2 := Lib.hid (HB.out.trans (hb2.mono HB.out.size))
  have CR := Lib.hid (sread_any A2 c2 b w2 hr2 (by have := HL.out; omega))
  rw [HOE.out] at CR
  clear hf hr2 hb2 HB
  go_wp2_with fail
  refine CR.out.mono ?_
  rintro e w3 ⟨hb3, hres⟩
  have HB3 := Lib.hid (HB2.out.trans (hb3.mono HB2.out.size))
  have CF := Lib.hid (fun W (hb : Below w.heap.size w W) => rfread_any A c b W (HP.out.below hb) (by have := HL.out; omega))
  rw [HO2.out] at CF
  rcases hres with ⟨hno, rfl⟩ | ⟨fn, span, t, P, s, F, hso, rfl, hs⟩
  case inl =>
    subst hno
    clear hb3 HB2
    go_wp2_with fail
    refine (CF.out _ HB3.out).mono ?_
    rintro e w4 ⟨hb4, hres⟩
    rcases hres with ⟨_, rfl⟩ | ⟨_, _, _, _, _, _, hso, _⟩
    case inr => cases hso
    have HB4 := Lib.hid (HB3.out.trans (hb4.mono HB3.out.size))
    clear hb4
    go_wp2_with fail
    go_ret
    exact ⟨rfl, HB4.out⟩
  case inr =>
    subst hso
    have HK := Lib.hid (rdSl_some (by have := HL.out; omega) HOE.out)
    have HS := Lib.hid hs
    have HZ := Lib.hid HB2.out.size
    clear hs hb3
    go_wp2_with fail
    refine (CF.out _ HB3.out).mono ?_
    rintro e w4 ⟨hb4, hres⟩
    rcases hres with ⟨hno, _⟩ | ⟨fn', span', t', P', r, G, hso, rfl, hr⟩
    case inl => cases hno
    simp only [Option.some.injEq, Prod.mk.injEq] at hso
    obtain ⟨rfl, rfl, rfl, rfl⟩ := hso
    have HB4 := Lib.hid (HB3.out.trans (hb4.mono HB3.out.size))
    have HT : Hid (Duo w4 w2.heap.size fn span s r ⟨t, P, P.length⟩ ⟨t, P, P.length⟩) := Lib.hid ⟨F, G, HS.out.below hb4, ⟨hr.sl, fun k hk => Nat.le_trans HS.out.le (hr.lo k hk), hr.hi⟩, fun k h => by
      have h1 := HS.out.hi k h.1
      have h2 := hr.lo k h.2
      omega⟩
    have HF := Lib.hid HK.out.fine
    clear hb4 hr HS HB3 CR CF HB2
    obtain ⟨vn, vo, vi, hv⟩ := vvV_form fn P
    have HV := Lib.hid hv
    clear hv
    go_wp2_with fail
    refine (HT.out.val1 HF.out (by have := HK.out.len; have := HL.out; omega) _ HV.out).mono ?_
    rintro e w8 ⟨rfl, hb⟩
    have HX := Lib.hid (newB w8 (.cells #[.int .i64 vn, .bool vo] 25))
    have hb2 := hb.trans ((below_alloc (Below.refl w8.heap.size w8) (.cells #[.int .i64 vn, .bool vo] 25)).mono hb.size)
    replace HB4 := Lib.hid (HB4.out.trans (hb2.mono HB4.out.size))
    replace HT := Lib.hid (HT.out.below hb2)
    clear hb hb2
    go_wp2_with fail
    refine (HT.out.val2 HF.out (by have := HK.out.len; have := HL.out; omega) HK.out.ok.1 _ HV.out).mono ?_
    rintro e w9 ⟨rfl, hb⟩
    have HY := Lib.hid (newB w9 (.cells #[.int .i64 vn, .bool vo] 25))
    have hb2 := hb.trans ((below_alloc (Below.refl w9.heap.size w9) (.cells #[.int .i64 vn, .bool vo] 25)).mono hb.size)
    replace HB4 := Lib.hid (HB4.out.trans (hb2.mono HB4.out.size))
    replace HT := Lib.hid (HT.out.below hb2)
    replace HX := Lib.hid (keepB HX.out hb2)
    clear hb hb2
    obtain ⟨A9, c9, hcell, hlt, hrp, hfl⟩ := HT.out.pts2
    have HCE := Lib.hid hcell
    have HLT := Lib.hid hlt
    have HPV : Hid (PvR P (.slice A9 P.length c9) (w9.alloc (.cells #[.int .i64 vn, .bool vo] 25))) := Lib.hid ⟨A9, c9, rfl, hrp, hfl⟩
    have HLP : Hid (P.length ≤ 1099511627776) := Lib.hid (by have := HK.out.len; have := HL.out; omega)
    have HLM : Hid (P.length ≤ 1000000) := Lib.hid (by have := HK.out.len; have := HL.out; omega)
    have C1 := Lib.hid (fun W hb => (HT.out.below (w' := W) hb).tim1)
    have C2 := Lib.hid (fun W hb => (HT.out.below (w' := W) hb).tim2)
    have CB := Lib.hid (fun W hb => (HT.out.below (w' := W) hb).bytes1 HF.out HLM.out HK.out.ok)
    simp only [HK.out.bytes] at CB
    have HRA := Lib.hid (HP.out.below HB4.out)
    clear hcell hlt hrp hfl
    go_wp2_with fail
    generalize w9.alloc (.cells #[.int .i64 vn, .bool vo] 25) = wa at *
    refine wp_region_two 32 [(0, false), (3, false), (4, false), (1, true), (2, false), (5, false), (6, false), (7, false), (8, false), (9, false), (10, false), (11, false), (12, false), (13, false), (14, false), (15, false), (16, false), (17, false), (19, false), (20, false), (21, false), (22, false), (18, true), (23, false), (24, false), (25, false), (26, false), (27, false), (28, false), (29, false), (30, false), (31, false)] [] [] rfl (Below wa.heap.size wa) (fun _ => True) (by kernel_rfl) (by kernel_rfl) (Stab.below _ _ (Nat.le_refl _)) (fun _ _ _ _ => True.intro) ((Below.refl _ _).drew) True.intro ?_
    repeat (first | (refine wt_q rfl rfl ?_; apply Exists.intro; refine ⟨fun w' hw' => ?_, fun K hK => ?_⟩; (focus ((have qv := conv_rd (c := c) (HRA.out.below hw')); go_simp; first | exact quiet_value | fail)); simp only [Act.put, List.setIfInBounds_toArray, List.set_cons_zero, List.set_cons_succ]; refine hK.out _ ?_; clear hK K) | (refine wt_skip rfl rfl (fun K hK => ?_); simp only [Act.put, List.setIfInBounds_toArray, List.set_cons_zero, List.set_cons_succ]; refine hK.out _ ?_; clear hK K))
    refine wt_step rfl (RVb b) (fun _ => Triv) (RVb.stab _) (fun _ _ _ _ _ => triv _) rfl rfl (fun w' hc hd => ?_) (fun K hK v3 => ?_)
    focus
      have HC := Lib.hid hc
      clear hc hd
      go_simp
      refine st_enter ?_
      exact byt_step (CB.out _ HC.out) (fun W hb => HC.out.trans (hb.mono HC.out.size))
    simp only [Act.put, List.setIfInBounds_toArray, List.set_cons_zero, List.set_cons_succ]
    refine hK.out _ _ _ ?_
    clear hK K
    repeat (first | (refine wt_q rfl rfl ?_; apply Exists.intro; refine ⟨fun w' hw' => ?_, fun K hK => ?_⟩; (focus ((have qv := RVb.conv hw'.2; have q0 := keepB HX.out hw'.1; have q1 := keepB HY.out hw'.1; have j0 := cellAt (o := 0) q0 rfl; have j1 := cellAt (o := 1) q0 rfl; have j2 := cellAt (o := 0) q1 rfl; have j3 := cellAt (o := 1) q1 rfl; have j4 := (Below.cell hw'.1 HLT.out).trans HCE.out; clear q0 q1); go_simp; first | exact quiet_value | fail)); simp only [Act.put, List.setIfInBounds_toArray, List.set_cons_zero, List.set_cons_succ]; refine hK.out _ ?_; clear hK K) | (refine wt_skip rfl rfl (fun K hK => ?_); simp only [Act.put, List.setIfInBounds_toArray, List.set_cons_zero, List.set_cons_succ]; refine hK.out _ ?_; clear hK K))
    refine wt_step rfl (PvR P) (fun _ => Triv) (PvR.stab _) (fun _ _ _ _ _ => triv _) rfl rfl (fun w' hc hd => ?_) (fun K hK v => ?_)
    focus
      have HC := Lib.hid hc
      clear hc hd
      go_simp
      refine st_enter ?_
      exact pts_step (C := fun W => Below wa.heap.size wa W ∧ RVb b v3 W) ((HT.out.below HC.out.1).points HLP.out) (fun W hb => ⟨HC.out.1.trans (hb.mono HC.out.1.size), RVb.stab _ _ _ _ HC.out.2 hb⟩)
    simp only [Act.put, List.setIfInBounds_toArray, List.set_cons_zero, List.set_cons_succ]
    refine hK.out _ _ _ ?_
    clear hK K
    repeat (first | (refine wt_q rfl rfl ?_; apply Exists.intro; refine ⟨fun w' hw' => ?_, fun K hK => ?_⟩; (focus ((have hp2 := PvR.stab _ _ _ _ HPV.out hw'.1.1); go_simp; first | exact quiet_value | first | with_reducible exact quiet_enter (kp_quiet hw'.2 hp2 HLP.out) | with_reducible exact quiet_enter (C1.out _ hw'.1.1) | with_reducible exact quiet_enter (C2.out _ hw'.1.1))); simp only [Act.put, List.setIfInBounds_toArray, List.set_cons_zero, List.set_cons_succ]; refine hK.out _ ?_; clear hK K) | (refine wt_skip rfl rfl (fun K hK => ?_); simp only [Act.put, List.setIfInBounds_toArray, List.set_cons_zero, List.set_cons_succ]; refine hK.out _ ?_; clear hK K))
    refine wt_nil ?_
    rintro w12 ⟨⟨hb, _⟩, _⟩ _
    have HE := Lib.hid (HB4.out.trans (hb.mono HB4.out.size))
    clear hb
    try simp only [List.drop_succ_cons, List.drop_zero]
    go_wp2_with fail
    go_ret
    exact ⟨rfl, HE.out⟩
end Go.Proofs.Ytbhkgnhgecchcaa
