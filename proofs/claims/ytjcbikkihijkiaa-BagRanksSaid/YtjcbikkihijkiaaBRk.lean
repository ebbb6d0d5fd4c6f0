/- BagRanks, walked. -/
import Derived.Test.YtjcbikkihijkiaaBrL
import Derived.Test.YtjcbikkihijkiaaOpV
namespace Go.Proofs.Ytjcbikkihijkiaa
open Go.RowKit
set_option maxHeartbeats 8000000 in
set_option maxRecDepth 1000000 in
theorem branks_out (A C : Option Addr) (a b c d : Nat) (n : Int) (h : 400 < a ∨ 400 < b ∨ n = 9223372036854775807) (w : World) :
    Calls Try.prog 3 #[.slice A a c, .slice C b d, .int .i64 n] w fun e w' => e = .returned (.bool true) ∧ Below w.heap.size w w' := by
  have HB := Lib.hid (Below.refl w.heap.size w)
  by_cases h1 : (400 : Int) < (a : Int)
  · clear h
    go_enter Try.func3, Try.ntmps3
    go_wp2_with fail
    refine (lives_any _).mono ?_
    rintro e w1 ⟨rfl, hb⟩
    replace HB := Lib.hid (HB.out.trans (hb.mono HB.out.size))
    clear hb
    go_wp2_with fail
    go_ret
    exact ⟨rfl, HB.out⟩
  · by_cases h2 : (400 : Int) < (b : Int)
    · clear h
      go_enter Try.func3, Try.ntmps3
      go_wp2_with fail
      refine (lives_any _).mono ?_
      rintro e w1 ⟨rfl, hb⟩
      replace HB := Lib.hid (HB.out.trans (hb.mono HB.out.size))
      clear hb
      go_wp2_with fail
      go_ret
      exact ⟨rfl, HB.out⟩
    · obtain rfl : n = 9223372036854775807 := by omega
      clear h
      go_enter Try.func3, Try.ntmps3
      go_wp2_with fail
      refine (lives_any _).mono ?_
      rintro e w1 ⟨rfl, hb⟩
      replace HB := Lib.hid (HB.out.trans (hb.mono HB.out.size))
      clear hb
      go_wp2_with fail
      go_ret
      exact ⟨rfl, HB.out⟩
/-- The law's bag. -/
def RkS (w : World) (B i : Nat) (W : World) : Prop := ∃ L o, LBag w (fun _ => False) W B L o ∧ o + sumL L ≤ i
theorem valIn {n : Int} (h : VIn n) : I64 n := h
set_option maxHeartbeats 8000000 in
set_option maxRecDepth 1000000 in
theorem branks_core (A C : Option Addr) (l m : List Vl) (c d : Nat) (n : Int) (hl : l.length ≤ 400) (hm : m.length ≤ 400) (hn : n ≠ 9223372036854775807) (hnI : VIn n) (w : World) (hA : RVal w A l) (hC : RVal w C m) (hl64 : ∀ e ∈ l, VIn e.1) (hm64 : ∀ e ∈ m, VIn e.1) :
    Calls Try.prog 3 #[.slice A l.length c, .slice C m.length d, .int .i64 n] w fun e w' => e = .returned (.bool true) ∧ Below w.heap.size w w' := by
  have HB := Lib.hid (Below.refl w.heap.size w)
  obtain ⟨N, hN⟩ : ∃ N, l.length = N := ⟨_, rfl⟩
  obtain ⟨M, hM⟩ : ∃ M, m.length = M := ⟨_, rfl⟩
  have HA := Lib.hid hA
  have HC := Lib.hid hC
  have HL := Lib.hid hl64
  have HM := Lib.hid hm64
  have HNI := Lib.hid hnI
  have HN := Lib.hid hN
  have HMl := Lib.hid hM
  rw [hN] at hl ⊢
  rw [hM] at hm ⊢
  have hn1 : ¬ n = 9223372036854775807 := hn
  have hn2 : decide (n = 9223372036854775807) = false := by simpa using hn
  have hn3 : (n == 9223372036854775807) = false := by simpa using hn
  clear hA hC hl64 hm64 hN hM hnI hn
  go_enter Try.func3, Try.ntmps3
  go_wp2_with fail
  refine (lives_any _).mono ?_
  rintro e w1 ⟨rfl, hb⟩
  replace HB := Lib.hid (HB.out.trans (hb.mono HB.out.size))
  clear hb
  go_wp2_with fail
  refine (newLBag HB.out).mono ?_
  rintro e w2 ⟨rfl, h2⟩
  have HS := Lib.hid h2
  obtain ⟨B, hB⟩ : ∃ B, w1.heap.size = B := ⟨_, rfl⟩
  rw [hB] at HS ⊢
  clear h2 hB
  go_wp2_with fail
  go_loopw [8] (fun v8 wr => ∃ i : Nat, v8 = .int .i64 (i : Int) ∧ i ≤ N ∧ Hid (RkS w B i wr)) (fun v8 _ => N - (intOf v8).toNat)
  case atStart => exact ⟨0, rfl, Nat.zero_le _, Lib.hid ⟨[], 0, HS.out, by simp [sumL]⟩⟩
  case round =>
    obtain ⟨i, rfl, hi, HR⟩ := hrel
    by_cases hlt : i < N
    · skip
      obtain ⟨L, o, hS, hsum⟩ := HR.out
      have hiL : i < l.length := by rw [HN.out]; exact hlt
      obtain ⟨la, rfl, hla, hlat⟩ := (HA.out.below hS.below) (by omega)
      obtain ⟨c0, c1⟩ := hlat i hiL
      obtain ⟨⟨xn, xo⟩, hx⟩ : ∃ x, l[i] = x := ⟨_, rfl⟩
      rw [hx] at c0 c1
      simp only at c0 c1
      have hI := valIn (by have := HL.out _ (List.getElem_mem hiL); rw [hx] at this; exact this : VIn xn)
      have P := Lib.hid (hS.turn (fun F h => bput_L xn xo hI h (by omega) (by omega)))
      have hps := put_sum xn xo L o
      have hw : IntKind.i64.wrap ((i : Int) + 1) = ((i + 1 : Nat) : Int) := by rw [IntKind.wrap_i64]; omega
      clear hlat hx hI hS hiL hla
      go_wp2_with fail
      refine P.out.mono ?_
      rintro e w3 ⟨rfl, h3, _⟩
      have HR3 : Hid (RkS w B (i + 1) w3) := Lib.hid ⟨_, _, h3, by omega⟩
      clear h3 P hps c0 c1
      go_wp2_with fail
      go_roundw
      case rel => exact ⟨i + 1, rfl, by omega, HR3⟩
      case measure => simp [intOf]; omega
    · obtain rfl : i = N := by omega
      clear hlt hi
      go_wp2_with fail
      go_loopw [9] (fun v9 wr => ∃ i : Nat, v9 = .int .i64 (i : Int) ∧ i ≤ M ∧ Hid (RkS w B 400 wr)) (fun v9 _ => M - (intOf v9).toNat)
      case atStart => exact ⟨0, rfl, Nat.zero_le _, Lib.hid (by obtain ⟨L, o, h1, h2⟩ := HR.out; exact ⟨L, o, h1, by omega⟩)⟩
      clear HR
      case round =>
        obtain ⟨i, rfl, hi, HR⟩ := hrel
        by_cases hlt : i < M
        · skip
          obtain ⟨L, o, hS, hsum⟩ := HR.out
          have hiL : i < m.length := by rw [HMl.out]; exact hlt
          obtain ⟨la, rfl, hla, hlat⟩ := (HC.out.below hS.below) (by omega)
          obtain ⟨c0, c1⟩ := hlat i hiL
          obtain ⟨⟨xn, xo⟩, hx⟩ : ∃ x, m[i] = x := ⟨_, rfl⟩
          rw [hx] at c0 c1
          simp only at c0 c1
          have C1 := Lib.hid (hS.read (fun F h => bcount_L xn xo h))
          have HC1 := Lib.hid (fun W (hb : Below wr.heap.size wr W) => (hS.go hb).turn (fun F h => btake_L xn xo h (by omega) (by omega)))
          obtain ⟨ht1, ht2, ht3, ht4⟩ := take_tells hS.ok xn xo o
          obtain ⟨hd, hhd⟩ : ∃ hd, cntLs xn xo L o = hd := ⟨_, rfl⟩
          obtain ⟨tk, L2, o2, htk⟩ : ∃ tk L2 o2, takeLs xn xo L o = (tk, L2, o2) := ⟨_, _, _, rfl⟩
          have hdm : hd ≤ 400 := by have := cntLs_le xn xo L o; omega
          rw [htk, hhd] at ht1 ht2
          rw [htk] at ht3 ht4 HC1
          rw [hhd] at C1
          simp only at ht1 ht2 ht3 ht4 HC1
          have HLA := Lib.hid (fun W (hb : Below w.heap.size w W) => by
            obtain ⟨la', e, _, hlat'⟩ := (HC.out.below hb) (by omega)
            cases e
            have := hlat' i hiL
            rw [hx] at this
            exact this)
          have HSB := Lib.hid hS.below
          have HT2 := Lib.hid ht2
          have hw : IntKind.i64.wrap ((i : Int) + 1) = ((i + 1 : Nat) : Int) := by rw [IntKind.wrap_i64]; omega
          clear hlat hx hS hiL hla htk hhd ht2
          go_wp2_with fail
          refine C1.out.mono ?_
          rintro e w3 ⟨rfl, hb⟩
          have P := Lib.hid (HC1.out _ hb)
          have HB3 := Lib.hid (HSB.out.trans (hb.mono HSB.out.size))
          clear c0 c1 hb
          obtain ⟨c0, c1⟩ := HLA.out _ HB3.out
          go_wp2_with fail
          refine P.out.mono ?_
          rintro e w4 ⟨rfl, h4, _⟩
          clear c0 c1
          obtain ⟨c0, c1⟩ := HLA.out _ h4.below
          have H4 := Lib.hid h4
          have C4 := Lib.hid (h4.read (fun F h => bcount_L xn xo h))
          rw [HT2.out] at C4
          have HR4 : Hid (RkS w B 400 w4) := Lib.hid ⟨_, _, h4, by omega⟩
          clear h4 P C1 HC1 HT2
          cases hd with
          | zero =>
            have htk1 : ¬ tk = 0 := by omega
            have hm1 : IntKind.i64.wrap (-1) = -1 := by rw [IntKind.wrap_i64]; omega
            clear ht1
            go_wp2_with fail
            refine C4.out.mono ?_
            rintro e w5 ⟨rfl, hb⟩
            have HR5 : Hid (RkS w B 400 w5) := Lib.hid (by obtain ⟨L, o, h1, h2⟩ := HR4.out; exact ⟨L, o, h1.go hb, h2⟩)
            clear hb c0 c1
            go_wp2_with fail
            go_roundw
            case rel => exact ⟨i + 1, rfl, by omega, HR5⟩
            case measure => simp [intOf]; omega
          | succ hd =>
            obtain rfl : tk = 0 := by omega
            have hm1 : IntKind.i64.wrap (hd : Int) = (hd : Int) := by rw [IntKind.wrap_i64]; omega
            have hm2 : ((hd + 1 : Nat) : Int) - 1 = (hd : Int) := by omega
            simp only [Nat.add_sub_cancel] at C4
            clear ht1
            go_wp2_with fail
            refine C4.out.mono ?_
            rintro e w5 ⟨rfl, hb⟩
            have HR5 : Hid (RkS w B 400 w5) := Lib.hid (by obtain ⟨L, o, h1, h2⟩ := HR4.out; exact ⟨L, o, h1.go hb, h2⟩)
            clear hb c0 c1
            go_wp2_with fail
            exact ⟨⟨i + 1, rfl, by omega, HR5⟩, by simp [intOf]; omega⟩
        · obtain rfl : i = M := by omega
          clear hlt hi
          go_wp2_with fail
          obtain ⟨L, o, hS, hsum⟩ := HR.out
          have hok := hS.ok
          have HK := Lib.hid hok
          have HSm := Lib.hid hsum
          have CC := Lib.hid (hS.read (fun F h => bcounts_L h (by omega)))
          have HS0 := Lib.hid hS
          obtain ⟨NL, hNL⟩ : ∃ NL, L.length = NL := ⟨_, rfl⟩
          have HNL := Lib.hid hNL
          have hNLm : NL ≤ 400 := by rw [← hNL]; have := len_sumL hok.one; omega
          clear hS hsum hok hNL
          refine CC.out.mono ?_
          rintro e w3 ⟨v, rfl, hr, hb⟩
          obtain ⟨ca, cap, rfl⟩ := ownsRow_form hr
          have HRow := Lib.hid hr
          rw [HNL.out]
          have HS3 := Lib.hid (HS0.out.go hb)
          clear hr hb CC
          go_wp2_with fail
          have C3 := Lib.hid (HS3.out.read (fun F h => bcount_L 0 true h))
          rw [show cntLs 0 true L o = o from rfl] at C3
          refine C3.out.mono ?_
          rintro e w4 ⟨rfl, hb⟩
          have HS4 := Lib.hid (HS3.out.go hb)
          have HRow4 := Lib.hid (oft_below HRow.out hb)
          clear hb C3
          go_wp2_with fail
          clear HRow HS3 HS0 HR
          go_loopw [12, 13] (fun v12 v13 wr' => ∃ (i : Nat) (q : Nat), v13 = .int .i64 (i : Int) ∧ v12 = .int .i64 (q : Int) ∧ i ≤ NL ∧ Hid (q = o + sumL (L.take i)) ∧ Hid (LBag w (fun _ => False) wr' B L o) ∧ Hid (wr'.ownsRow wr.heap.size 34 2 (.slice ca L.length cap) L.length (oftF L))) (fun _ v13 _ => NL - (intOf v13).toNat)
          case atStart => exact ⟨0, o, rfl, rfl, Nat.zero_le _, Lib.hid (by simp [sumL]), HS4, HRow4⟩
          clear HS4 HRow4
          case round =>
            rename_i w4 wp _
            obtain ⟨j, q, rfl, rfl, hj, HQ, HS, HR⟩ := hrel
            by_cases hlt : j < NL
            · have hiL : j < L.length := by rw [HNL.out]; exact hlt
              obtain ⟨g, rfl⟩ := ownsRow_at HR.out (by omega)
              obtain ⟨p1, p2, p3, p4⟩ := HK.out.at_ hiL
              obtain ⟨⟨pn, pk⟩, hp⟩ : ∃ p, L[j] = p := ⟨_, rfl⟩
              rw [hp] at p1 p2 p3 p4
              simp only at p1 p2 p3 p4
              obtain ⟨s, hs⟩ : ∃ s, sumL (L.take j) = s := ⟨_, rfl⟩
              have hq := HQ.out
              have hsm := HSm.out
              have hle := lowL_le pn L
              rw [hs] at p1 p4 hq
              rw [p1] at hle
              have hcl := cntL_le pn L
              rw [p2] at hcl
              have CP := Lib.hid (fun W (hb : Below wr.heap.size wr W) => (HS.out.go hb).read (fun F h => bplace_L pn h (by omega)))
              have CO := Lib.hid (fun W (hb : Below wr.heap.size wr W) => (HS.out.go hb).read (fun F h => bcount_L 0 true h))
              have CN := Lib.hid (fun W (hb : Below wr.heap.size wr W) => (HS.out.go hb).read (fun F h => bcount_L pn false h))
              rw [show cntLs 0 true L o = o from rfl] at CO
              rw [show cntLs pn false L o = cntL pn L from rfl, p2] at CN
              rw [p1] at CP
              have HCell := Lib.hid (fun W (hb : Below wr.heap.size wr W) => by
                have := oft_cell (oft_below HR.out hb) hiL
                rw [hp] at this
                exact this)
              have HPrev := Lib.hid (fun (jb : Nat) (e : j = jb + 1) => (⟨L[jb]'(by omega), by subst e; have := HK.out.lt hiL; rw [hp] at this; exact this, fun W (hb : Below wr.heap.size wr W) => (oft_cell (oft_below HR.out hb) (i := jb) (by omega)).1⟩ : ∃ x : Int × Nat, x.1 < pn ∧ ∀ W, Below wr.heap.size wr W → W.cell? ⟨g, jb * 2, none⟩ = some (.int .i64 x.1)))
              have hw1 : IntKind.i64.wrap ((s : Int) + (o : Int)) = (q : Int) := by rw [IntKind.wrap_i64]; omega
              have hw2 : IntKind.i64.wrap ((q : Int) + (pk : Int)) = ((q + pk : Nat) : Int) := by rw [IntKind.wrap_i64]; omega
              have hw3 : IntKind.i64.wrap ((j : Int) + 1) = ((j + 1 : Nat) : Int) := by rw [IntKind.wrap_i64]; omega
              have hk1 : ¬ (pk : Int) < 1 := by omega
              have hk2 : decide ((pk : Int) < 1) = false := by simpa using hk1
              have HQ2 : Hid (q + pk = o + sumL (L.take (j + 1))) := Lib.hid (by omega)
              clear hp hs p1 p2 p3 p4 hq hsm hle hcl hiL HQ
              cases j with
              | zero =>
                clear HPrev
                go_wp2_with fail
                refine wp_region_here 55 [(0, false), (1, false), (2, false), (3, false), (4, false), (5, false), (6, false), (7, false), (8, false), (9, false), (10, false), (11, false), (12, false), (13, false), (14, false), (15, false), (16, false), (17, false), (18, false), (19, false), (20, false), (21, false), (22, false), (23, false), (24, false), (25, false), (26, false), (27, false), (28, false), (29, false), (30, false), (31, false), (32, false), (33, false), (34, false), (35, false), (36, false), (37, false), (38, false), (39, false), (40, false), (41, false), (42, false), (43, false), (44, false), (45, false), (46, false), (47, false), (48, false), (49, false), (50, false), (51, false), (52, false), (53, false), (54, false)] (fun _ => .cells #[] 0) (by kernel_rfl) (by kernel_rfl) ?_
                repeat (first | (refine wpP_q rfl rfl rfl ?_; apply Exists.intro; refine ⟨fun w' hw' => ?_, fun K hK => ?_⟩; (focus ((have q0 := HCell.out _ hw'; obtain ⟨c0, c1⟩ := q0); go_simp; first | exact quiet_value | first | with_reducible exact quiet_enter (CP.out _ hw') | with_reducible exact quiet_enter (CO.out _ hw') | with_reducible exact quiet_enter (CN.out _ hw'))); simp only [Act.put, List.setIfInBounds_toArray, List.set_cons_zero, List.set_cons_succ]; refine hK.out _ ?_; clear hK K) | (refine wpP_skip rfl rfl rfl (fun K hK => ?_); simp only [Act.put, List.setIfInBounds_toArray, List.set_cons_zero, List.set_cons_succ]; refine hK.out _ ?_; clear hK K))
                refine wpP_nil ?_
                intro w6 hb6
                have HS6 := Lib.hid (HS.out.go hb6)
                have HR6 := Lib.hid (oft_below HR.out hb6)
                obtain ⟨c0, c1⟩ := HCell.out _ hb6
                clear hb6 CP CO CN HCell
                try simp only [List.drop_succ_cons, List.drop_nil]
                go_wp2_with fail
                go_roundw
                case rel => exact ⟨1, q + pk, rfl, rfl, by omega, HQ2, HS6, HR6⟩
                case measure => simp [intOf]; omega
              | succ j =>
                obtain ⟨⟨xn, xk⟩, hx1, hx2⟩ := HPrev.out j rfl
                have HX2 := Lib.hid hx2
                simp only at hx1
                have hx3 : ¬ pn ≤ xn := by omega
                have hx4 : decide (pn ≤ xn) = false := by simpa using hx3
                have hj1 : IntKind.i64.wrap (j : Int) = (j : Int) := by rw [IntKind.wrap_i64]; omega
                have hj2 : (0 : Int) < (j : Int) + 1 := by omega
                have hj3 : j < NL := by omega
                clear HPrev hx2
                go_wp2_with fail
                refine wp_region_here 55 [(0, false), (1, false), (2, false), (3, false), (4, false), (5, false), (6, false), (7, false), (8, false), (9, false), (10, false), (11, false), (12, false), (13, false), (14, false), (15, false), (16, false), (17, false), (18, false), (19, false), (20, false), (21, false), (22, false), (23, false), (24, false), (25, false), (26, false), (27, false), (28, false), (29, false), (30, false), (31, false), (32, false), (33, false), (34, false), (35, false), (36, false), (37, false), (38, false), (39, false), (40, false), (41, false), (42, false), (43, false), (44, false), (45, false), (46, false), (47, false), (48, false), (49, false), (50, false), (51, false), (52, false), (53, false), (54, false)] (fun _ => .cells #[] 0) (by kernel_rfl) (by kernel_rfl) ?_
                repeat (first | (refine wpP_q rfl rfl rfl ?_; apply Exists.intro; refine ⟨fun w' hw' => ?_, fun K hK => ?_⟩; (focus ((have q0 := HCell.out _ hw'; obtain ⟨c0, c1⟩ := q0; have c2 := HX2.out _ hw'); go_simp; first | exact quiet_value | first | with_reducible exact quiet_enter (CP.out _ hw') | with_reducible exact quiet_enter (CO.out _ hw') | with_reducible exact quiet_enter (CN.out _ hw'))); simp only [Act.put, List.setIfInBounds_toArray, List.set_cons_zero, List.set_cons_succ]; refine hK.out _ ?_; clear hK K) | (refine wpP_skip rfl rfl rfl (fun K hK => ?_); simp only [Act.put, List.setIfInBounds_toArray, List.set_cons_zero, List.set_cons_succ]; refine hK.out _ ?_; clear hK K))
                refine wpP_nil ?_
                intro w6 hb6
                have HS6 := Lib.hid (HS.out.go hb6)
                have HR6 := Lib.hid (oft_below HR.out hb6)
                obtain ⟨c0, c1⟩ := HCell.out _ hb6
                clear hb6 CP CO CN HCell
                try simp only [List.drop_succ_cons, List.drop_nil]
                go_wp2_with fail
                go_roundw
                case rel => exact ⟨j + 1 + 1, q + pk, by simp, rfl, by omega, HQ2, HS6, HR6⟩
                case measure => simp [intOf]; omega
            · obtain rfl : j = NL := by omega
              clear hlt hj
              have hqe : q = o + sumL L := by rw [HQ.out, List.take_of_length_le (by rw [HNL.out]; exact Nat.le_refl _)]
              have hsm := HSm.out
              have hnI := HNI.out
              unfold VIn at hnI
              have hlow := low_succ n L
              have hll := lowL_le (n + 1) L
              obtain ⟨q1, hq1⟩ : ∃ x, lowL (n + 1) L = x := ⟨_, rfl⟩
              obtain ⟨q2, hq2⟩ : ∃ x, lowL n L = x := ⟨_, rfl⟩
              obtain ⟨q3, hq3⟩ : ∃ x, cntL n L = x := ⟨_, rfl⟩
              have HP1 := Lib.hid (fun W (h : LBag w (fun _ => False) W B L o) => h.read (fun F h => by have := bplace_L (n + 1) h (by omega); rw [hq1] at this; exact this))
              have HP2 := Lib.hid (fun W (h : LBag w (fun _ => False) W B L o) => h.read (fun F h => by have := bplace_L n h (by omega); rw [hq2] at this; exact this))
              have HP3 := Lib.hid (fun W (h : LBag w (fun _ => False) W B L o) => h.read (fun F h => by have := bcount_L n false h; rw [show cntLs n false L o = cntL n L from rfl, hq3] at this; exact this))
              have HP4 := Lib.hid (fun W (h : LBag w (fun _ => False) W B L o) => h.read (fun F h => by have := blen_L h (by omega); rw [← hqe] at this; exact this))
              have HP5 := Lib.hid (fun W (h : LBag w (fun _ => False) W B L o) => h.read (fun F h => by have := bcount_L 0 true h; rw [show cntLs 0 true L o = o from rfl] at this; exact this))
              rw [hq1, hq2, hq3] at hlow
              rw [hq1] at hll
              have hwn : IntKind.i64.wrap (n + 1) = n + 1 := by rw [IntKind.wrap_i64]; omega
              have hwd : IntKind.i64.wrap ((q1 : Int) - (q2 : Int)) = (q3 : Int) := by rw [IntKind.wrap_i64]; omega
              clear HQ hq1 hq2 hq3
              by_cases ho : 0 < o
              · have CL := Lib.hid (HS.out.read (fun F h => bleast_L h (by omega)))
                have CM := Lib.hid (fun W (h : LBag w (fun _ => False) W B L o) => h.read (fun F h => bmost_L h (by omega)))
                rw [show endLs L o (loL L) = (true, 0, true) by unfold endLs; rw [if_pos ho]] at CL
                rw [show endLs L o (hiL L) = (true, 0, true) by unfold endLs; rw [if_pos ho]] at CM
                have hq0 : 0 < q := by omega
                have hi0 : 0 < (o : Int) := by omega
                have hi1 : 0 < (q : Int) := by omega
                clear hqe hsm hnI hlow hll
                unfold endP at CL CM
                simp only at CL CM
                go_wp2_with fail
                refine CL.out.mono ?_
                rintro e w5 ⟨rfl, hb⟩
                have hb5 := hb.trans ((below_alloc (Below.refl w5.heap.size w5) (Obj.cells #[.int .i64 (0), .bool true] 29)).mono hb.size)
                have HX := Lib.hid (newB w5 (Obj.cells #[.int .i64 (0), .bool true] 29))
                replace HR := Lib.hid (oft_below HR.out hb5)
                replace HS := Lib.hid (HS.out.go hb5)
                obtain ⟨X, hX⟩ : ∃ X, w5.heap.size = X := ⟨_, rfl⟩
                rw [hX] at HX
                clear hb hb5 CL
                go_wp2_with fail
                clear hX
                refine (CM.out _ HS.out).mono ?_
                rintro e w6 ⟨rfl, hb⟩
                have hb6 := hb.trans ((below_alloc (Below.refl w6.heap.size w6) (Obj.cells #[.int .i64 (0), .bool true] 29)).mono hb.size)
                have HY := Lib.hid (newB w6 (Obj.cells #[.int .i64 (0), .bool true] 29))
                replace HR := Lib.hid (oft_below HR.out hb6)
                replace HS := Lib.hid (HS.out.go hb6)
                replace HX := Lib.hid (keepB HX.out hb6)
                obtain ⟨Y, hY⟩ : ∃ Y, w6.heap.size = Y := ⟨_, rfl⟩
                rw [hY] at HY
                clear hb hb6 CM
                go_wp2_with fail
                clear hY
                refine (HP1.out _ HS.out).mono ?_; rintro e w3 ⟨rfl, hb⟩; replace HR := Lib.hid (oft_below HR.out hb); replace HS := Lib.hid (HS.out.go hb); replace HX := Lib.hid (keepB HX.out hb); replace HY := Lib.hid (keepB HY.out hb); clear hb; go_wp2_with fail
                refine (HP2.out _ HS.out).mono ?_; rintro e w3 ⟨rfl, hb⟩; replace HR := Lib.hid (oft_below HR.out hb); replace HS := Lib.hid (HS.out.go hb); replace HX := Lib.hid (keepB HX.out hb); replace HY := Lib.hid (keepB HY.out hb); clear hb; go_wp2_with fail
                refine (HP3.out _ HS.out).mono ?_; rintro e w3 ⟨rfl, hb⟩; replace HR := Lib.hid (oft_below HR.out hb); replace HS := Lib.hid (HS.out.go hb); replace HX := Lib.hid (keepB HX.out hb); replace HY := Lib.hid (keepB HY.out hb); clear hb; go_wp2_with fail
                refine (HP4.out _ HS.out).mono ?_; rintro e w3 ⟨rfl, hb⟩; replace HR := Lib.hid (oft_below HR.out hb); replace HS := Lib.hid (HS.out.go hb); replace HX := Lib.hid (keepB HX.out hb); replace HY := Lib.hid (keepB HY.out hb); clear hb; go_wp2_with fail
                refine (HP5.out _ HS.out).mono ?_
                rintro e w3 ⟨rfl, hb⟩
                replace HR := Lib.hid (oft_below HR.out hb)
                replace HS := Lib.hid (HS.out.go hb)
                replace HX := Lib.hid (keepB HX.out hb)
                replace HY := Lib.hid (keepB HY.out hb)
                have x0 := cellAt (o := 0) HX.out rfl
                have x1 := cellAt (o := 1) HX.out rfl
                have y0 := cellAt (o := 0) HY.out rfl
                have y1 := cellAt (o := 1) HY.out rfl
                clear hb
                go_wp2_with fail
                go_ret
                exact ⟨rfl, HS.out.below⟩
              · obtain rfl : o = 0 := by omega
                clear ho
                cases L with
                | nil =>
                  have CL := Lib.hid (HS.out.read (fun F h => bleast_L h (by omega)))
                  have CM := Lib.hid (fun W (h : LBag w (fun _ => False) W B [] 0) => h.read (fun F h => bmost_L h (by omega)))
                  rw [show endLs [] 0 (loL []) = (false, 0, false) from rfl] at CL
                  rw [show endLs [] 0 (hiL []) = (false, 0, false) from rfl] at CM
                  obtain rfl : q = 0 := by simpa [sumL] using hqe
                  have hj0 : 0 = j := HNL.out
                  subst hj0
                  clear hqe hsm hnI hlow hll
                  unfold endP at CL CM
                  simp only at CL CM
                  go_wp2_with fail
                  refine CL.out.mono ?_
                  rintro e w5 ⟨rfl, hb⟩
                  have hb5 := hb.trans ((below_alloc (Below.refl w5.heap.size w5) (Obj.cells #[.int .i64 (0), .bool false] 29)).mono hb.size)
                  have HX := Lib.hid (newB w5 (Obj.cells #[.int .i64 (0), .bool false] 29))
                  replace HR := Lib.hid (oft_below HR.out hb5)
                  replace HS := Lib.hid (HS.out.go hb5)
                  obtain ⟨X, hX⟩ : ∃ X, w5.heap.size = X := ⟨_, rfl⟩
                  rw [hX] at HX
                  clear hb hb5 CL
                  go_wp2_with fail
                  clear hX
                  refine (CM.out _ HS.out).mono ?_
                  rintro e w6 ⟨rfl, hb⟩
                  have hb6 := hb.trans ((below_alloc (Below.refl w6.heap.size w6) (Obj.cells #[.int .i64 (0), .bool false] 29)).mono hb.size)
                  have HY := Lib.hid (newB w6 (Obj.cells #[.int .i64 (0), .bool false] 29))
                  replace HR := Lib.hid (oft_below HR.out hb6)
                  replace HS := Lib.hid (HS.out.go hb6)
                  replace HX := Lib.hid (keepB HX.out hb6)
                  obtain ⟨Y, hY⟩ : ∃ Y, w6.heap.size = Y := ⟨_, rfl⟩
                  rw [hY] at HY
                  clear hb hb6 CM
                  go_wp2_with fail
                  clear hY
                  refine (HP1.out _ HS.out).mono ?_; rintro e w3 ⟨rfl, hb⟩; replace HR := Lib.hid (oft_below HR.out hb); replace HS := Lib.hid (HS.out.go hb); replace HX := Lib.hid (keepB HX.out hb); replace HY := Lib.hid (keepB HY.out hb); clear hb; go_wp2_with fail
                  refine (HP2.out _ HS.out).mono ?_; rintro e w3 ⟨rfl, hb⟩; replace HR := Lib.hid (oft_below HR.out hb); replace HS := Lib.hid (HS.out.go hb); replace HX := Lib.hid (keepB HX.out hb); replace HY := Lib.hid (keepB HY.out hb); clear hb; go_wp2_with fail
                  refine (HP3.out _ HS.out).mono ?_; rintro e w3 ⟨rfl, hb⟩; replace HR := Lib.hid (oft_below HR.out hb); replace HS := Lib.hid (HS.out.go hb); replace HX := Lib.hid (keepB HX.out hb); replace HY := Lib.hid (keepB HY.out hb); clear hb; go_wp2_with fail
                  refine (HP4.out _ HS.out).mono ?_; rintro e w3 ⟨rfl, hb⟩; replace HR := Lib.hid (oft_below HR.out hb); replace HS := Lib.hid (HS.out.go hb); replace HX := Lib.hid (keepB HX.out hb); replace HY := Lib.hid (keepB HY.out hb); clear hb; go_wp2_with fail
                  refine (HP5.out _ HS.out).mono ?_
                  rintro e w3 ⟨rfl, hb⟩
                  replace HR := Lib.hid (oft_below HR.out hb)
                  replace HS := Lib.hid (HS.out.go hb)
                  replace HX := Lib.hid (keepB HX.out hb)
                  replace HY := Lib.hid (keepB HY.out hb)
                  have x0 := cellAt (o := 0) HX.out rfl
                  have x1 := cellAt (o := 1) HX.out rfl
                  have y0 := cellAt (o := 0) HY.out rfl
                  have y1 := cellAt (o := 1) HY.out rfl
                  clear hb
                  go_wp2_with fail
                  refine wp_region_here 25 [(0, false), (1, false), (2, false), (3, false), (4, false), (5, false), (6, false), (7, false), (8, false), (9, false), (10, false), (11, false), (12, false), (13, false), (14, false), (15, false), (16, false), (17, false), (18, false), (19, false), (20, false), (21, false), (22, false), (23, false), (24, false)] (fun _ => .cells #[] 0) (by kernel_rfl) (by kernel_rfl) ?_
                  repeat (first | (refine wpP_q rfl rfl rfl ?_; apply Exists.intro; refine ⟨fun w' hw' => ?_, fun K hK => ?_⟩; (focus ((have q0 := keepB HX.out hw'; have q1 := keepB HY.out hw'; have x0 := cellAt (o := 0) q0 rfl; have y0 := cellAt (o := 0) q1 rfl; clear q0 q1); go_simp; first | exact quiet_value | fail)); simp only [Act.put, List.setIfInBounds_toArray, List.set_cons_zero, List.set_cons_succ]; refine hK.out _ ?_; clear hK K) | (refine wpP_skip rfl rfl rfl (fun K hK => ?_); simp only [Act.put, List.setIfInBounds_toArray, List.set_cons_zero, List.set_cons_succ]; refine hK.out _ ?_; clear hK K) | (refine wpP_skipu rfl rfl rfl (fun K hK => ?_); simp only [Act.put, List.setIfInBounds_toArray, List.set_cons_zero, List.set_cons_succ]; refine hK.out _ ?_; clear hK K))
                  refine wpP_nil ?_
                  intro w8 hb8
                  have HS8 := Lib.hid (HS.out.go hb8)
                  clear hb8
                  try simp only [List.drop_succ_cons, List.drop_nil]
                  go_wp2_with fail
                  go_ret
                  exact ⟨rfl, HS8.out.below⟩
                | cons p0 L0 =>
                  have CL := Lib.hid (HS.out.read (fun F h => bleast_L h (by omega)))
                  have CM := Lib.hid (fun W (h : LBag w (fun _ => False) W B (p0 :: L0) 0) => h.read (fun F h => bmost_L h (by omega)))
                  have hls : 0 < (p0 :: L0).length := by simp
                  have hlast : j - 1 < (p0 :: L0).length := by rw [HNL.out]; rw [HNL.out] at hls; omega
                  have hhi : hiL (p0 :: L0) = ((p0 :: L0)[j - 1]).1 := by
                    rw [hiL_at (by simp), List.getLast_eq_getElem]
                    congr 2
                    rw [HNL.out]
                  rw [show endLs (p0 :: L0) 0 (loL (p0 :: L0)) = (false, p0.1, true) from rfl] at CL
                  rw [show endLs (p0 :: L0) 0 (hiL (p0 :: L0)) = (false, hiL (p0 :: L0), true) from rfl, hhi] at CM
                  have hpos := len_sumL HK.out.one
                  obtain ⟨g, rfl⟩ := ownsRow_at HR.out hls
                  have HCa := Lib.hid (fun (W : World) (B0 : Nat) (hr : W.ownsRow B0 34 2 (.slice (some ⟨g, 0, none⟩) (p0 :: L0).length cap) (p0 :: L0).length (oftF (p0 :: L0))) => (⟨(oft_cell hr hls).1, (oft_cell hr hlast).1⟩ : W.cell? ⟨g, 0, none⟩ = some (.int .i64 p0.1) ∧ W.cell? ⟨g, (j - 1) * 2, none⟩ = some (.int .i64 ((p0 :: L0)[j - 1]).1)))
                  rw [HNL.out] at hls hpos
                  obtain ⟨k, rfl⟩ : ∃ k, j = k + 1 := ⟨j - 1, by omega⟩
                  obtain ⟨nx, hnx⟩ : ∃ x, p0.1 = x := ⟨_, rfl⟩
                  obtain ⟨ny, hny⟩ : ∃ x, ((p0 :: L0)[k + 1 - 1]).1 = x := ⟨_, rfl⟩
                  rw [hnx] at CL HCa
                  rw [hny] at CM HCa
                  have hi1 : 0 < (q : Int) := by omega
                  have hq0 : 0 < q := by omega
                  have hk1 : IntKind.i64.wrap (k : Int) = (k : Int) := by rw [IntKind.wrap_i64]; omega
                  have hk2 : ¬ (k : Int) + 1 = 0 := by omega
                  have hk3 : 0 < k + 1 := by omega
                  have hk4 : decide ((k : Int) + 1 = 0) = false := by simpa using hk2
                  have hk5 : (k : Int) < (k : Int) + 1 := by omega
                  simp only [Nat.add_sub_cancel] at HCa
                  clear hqe hsm hnI hlow hll hpos hhi hlast hls hnx hny
                  unfold endP at CL CM
                  simp only at CL CM
                  go_wp2_with fail
                  refine CL.out.mono ?_
                  rintro e w5 ⟨rfl, hb⟩
                  have hb5 := hb.trans ((below_alloc (Below.refl w5.heap.size w5) (Obj.cells #[.int .i64 (nx), .bool false] 29)).mono hb.size)
                  have HX := Lib.hid (newB w5 (Obj.cells #[.int .i64 (nx), .bool false] 29))
                  replace HR := Lib.hid (oft_below HR.out hb5)
                  replace HS := Lib.hid (HS.out.go hb5)
                  obtain ⟨X, hX⟩ : ∃ X, w5.heap.size = X := ⟨_, rfl⟩
                  rw [hX] at HX
                  clear hb hb5 CL
                  go_wp2_with fail
                  clear hX
                  refine (CM.out _ HS.out).mono ?_
                  rintro e w6 ⟨rfl, hb⟩
                  have hb6 := hb.trans ((below_alloc (Below.refl w6.heap.size w6) (Obj.cells #[.int .i64 (ny), .bool false] 29)).mono hb.size)
                  have HY := Lib.hid (newB w6 (Obj.cells #[.int .i64 (ny), .bool false] 29))
                  replace HR := Lib.hid (oft_below HR.out hb6)
                  replace HS := Lib.hid (HS.out.go hb6)
                  replace HX := Lib.hid (keepB HX.out hb6)
                  obtain ⟨Y, hY⟩ : ∃ Y, w6.heap.size = Y := ⟨_, rfl⟩
                  rw [hY] at HY
                  clear hb hb6 CM
                  go_wp2_with fail
                  clear hY
                  refine (HP1.out _ HS.out).mono ?_; rintro e w3 ⟨rfl, hb⟩; replace HR := Lib.hid (oft_below HR.out hb); replace HS := Lib.hid (HS.out.go hb); replace HX := Lib.hid (keepB HX.out hb); replace HY := Lib.hid (keepB HY.out hb); clear hb; go_wp2_with fail
                  refine (HP2.out _ HS.out).mono ?_; rintro e w3 ⟨rfl, hb⟩; replace HR := Lib.hid (oft_below HR.out hb); replace HS := Lib.hid (HS.out.go hb); replace HX := Lib.hid (keepB HX.out hb); replace HY := Lib.hid (keepB HY.out hb); clear hb; go_wp2_with fail
                  refine (HP3.out _ HS.out).mono ?_; rintro e w3 ⟨rfl, hb⟩; replace HR := Lib.hid (oft_below HR.out hb); replace HS := Lib.hid (HS.out.go hb); replace HX := Lib.hid (keepB HX.out hb); replace HY := Lib.hid (keepB HY.out hb); clear hb; go_wp2_with fail
                  refine (HP4.out _ HS.out).mono ?_; rintro e w3 ⟨rfl, hb⟩; replace HR := Lib.hid (oft_below HR.out hb); replace HS := Lib.hid (HS.out.go hb); replace HX := Lib.hid (keepB HX.out hb); replace HY := Lib.hid (keepB HY.out hb); clear hb; go_wp2_with fail
                  refine (HP5.out _ HS.out).mono ?_
                  rintro e w3 ⟨rfl, hb⟩
                  replace HR := Lib.hid (oft_below HR.out hb)
                  replace HS := Lib.hid (HS.out.go hb)
                  replace HX := Lib.hid (keepB HX.out hb)
                  replace HY := Lib.hid (keepB HY.out hb)
                  have x0 := cellAt (o := 0) HX.out rfl
                  have x1 := cellAt (o := 1) HX.out rfl
                  have y0 := cellAt (o := 0) HY.out rfl
                  have y1 := cellAt (o := 1) HY.out rfl
                  clear hb
                  go_wp2_with fail
                  refine wp_region_here 25 [(0, false), (1, false), (2, false), (3, false), (4, false), (5, false), (6, false), (7, false), (8, false), (9, false), (10, false), (11, false), (12, false), (13, false), (14, false), (15, false), (16, false), (17, false), (18, false), (19, false), (20, false), (21, false), (22, false), (23, false), (24, false)] (fun _ => .cells #[] 0) (by kernel_rfl) (by kernel_rfl) ?_
                  repeat (first | (refine wpP_q rfl rfl rfl ?_; apply Exists.intro; refine ⟨fun w' hw' => ?_, fun K hK => ?_⟩; (focus ((have q0 := keepB HX.out hw'; have q1 := keepB HY.out hw'; have x0 := cellAt (o := 0) q0 rfl; have y0 := cellAt (o := 0) q1 rfl; have q2 := HCa.out _ _ (oft_below HR.out hw'); obtain ⟨z0, z1⟩ := q2; clear q0 q1); go_simp; first | exact quiet_value | fail)); simp only [Act.put, List.setIfInBounds_toArray, List.set_cons_zero, List.set_cons_succ]; refine hK.out _ ?_; clear hK K) | (refine wpP_skip rfl rfl rfl (fun K hK => ?_); simp only [Act.put, List.setIfInBounds_toArray, List.set_cons_zero, List.set_cons_succ]; refine hK.out _ ?_; clear hK K) | (refine wpP_skipu rfl rfl rfl (fun K hK => ?_); simp only [Act.put, List.setIfInBounds_toArray, List.set_cons_zero, List.set_cons_succ]; refine hK.out _ ?_; clear hK K))
                  refine wpP_nil ?_
                  intro w8 hb8
                  have HS8 := Lib.hid (HS.out.go hb8)
                  clear hb8
                  try simp only [List.drop_succ_cons, List.drop_nil]
                  go_wp2_with fail
                  go_ret
                  exact ⟨rfl, HS8.out.below⟩
end Go.Proofs.Ytjcbikkihijkiaa
