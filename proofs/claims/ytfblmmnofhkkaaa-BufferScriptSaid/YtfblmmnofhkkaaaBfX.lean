/- BufferTrims, walked. -/
import Derived.Test.YtfblmmnofhkkaaaPtK
import Derived.Test.YtfblmmnofhkkaaaOpD
namespace Go.Proofs.Ytfblmmnofhkkaaa
open Go.RowKit
/-- Times as they may be. -/
def TmIn (P : List Pt) : Prop := ∀ q ∈ P, 1 ≤ q.1 ∧ q.1 ≤ 1099511627776
theorem putE_time {t : Int} {P : List Pt} {fl : Int} (h : putE t P fl = 0) : 1 ≤ t ∧ t ≤ 1099511627776 ∧ fl < t ∧ hasT t P = false ∧ P.length ≠ 65536 := by
  unfold putE at h
  split at h
  · omega
  · split at h
    · omega
    · split at h
      · omega
      · split at h
        · omega
        · rename_i h1 h2 h3 h4
          exact ⟨by omega, by omega, by omega, by simpa using h3, h4⟩
theorem ins_mem {q p : Pt} {P : List Pt} (h : p ∈ insP q P) : p = q ∨ p ∈ P := by
  unfold insP at h
  rcases List.mem_append.1 h with h | h
  · exact .inr (List.mem_filter.1 h).1
  · rcases List.mem_cons.1 h with h | h
    · exact .inl h
    · exact .inr (List.mem_filter.1 h).1
theorem putP_in {t m fl : Int} {P : List Pt} (h : TmIn P) : TmIn (putP t m P fl) := by
  unfold putP
  split
  · rename_i h0
    have := putE_time h0
    intro q hq
    rcases ins_mem hq with rfl | hq
    · exact ⟨this.1, this.2.1⟩
    · exact h q hq
  · exact h
theorem putP_rise {t m fl : Int} {P : List Pt} (h : Rise P) : Rise (putP t m P fl) := by
  unfold putP
  split
  · exact ins_rise h
  · exact h
theorem putP_len {t m fl : Int} {P : List Pt} (h : Rise P) : (putP t m P fl).length ≤ P.length + 1 := by
  unfold putP
  split
  · rename_i h0
    have := putE_time h0
    rw [ins_len h this.2.2.2.1]; exact Nat.le_refl _
  · omega
theorem above_above {x y : Int} (h : x ≤ y) (P : List Pt) : aboveP y (aboveP x P) = aboveP y P := by
  unfold aboveP
  rw [List.filter_filter]
  congr 1
  funext q
  by_cases h1 : y < q.1
  · simp [h1]; omega
  · simp [h1]
theorem above_zero {P : List Pt} (h : TmIn P) : aboveP 0 P = P := filter_all (fun q hq => by have := h q hq; simp; omega)
theorem above_in {x : Int} {P : List Pt} (h : TmIn P) : TmIn (aboveP x P) := fun q hq => h q (List.mem_filter.1 hq).1
theorem range_whole {P : List Pt} (h : TmIn P) : rangeP (-1) 1099511627776 P = P := filter_all (fun q hq => by have := h q hq; simp; omega)
section
variable {w0 w : World} {a b : Nat} {P : List Pt}
/-- Both buffers. -/
abbrev Two (a b : Nat) (P : List Pt) (f : Int) (R : List Pt) (g : Int) : Ob := Star (BufO a P f) (BufO b R g)
end
theorem two_obj (a b : Nat) (P : List Pt) (f : Int) (R : List Pt) (g : Int) : Obj1 (Two a b P f R g) := Star.obj (BufO.obj _ _ _) (BufO.obj _ _ _)
/-- New: one more. -/
theorem new_more {A : Ob} {w0 w : World} (hA : Obj1 A) (h : LM w0 A w) : Calls Try.prog 11 #[] w fun e w' => e = .returned (bptr w.heap.size) ∧ LM w0 (Star A (BufO w.heap.size [] 0)) w' := by
  refine (bnew_any w).mono ?_
  rintro e w' ⟨h1, h2, h3, h4⟩
  exact ⟨h1, h.more hA h3 (F := fun k => k = w.heap.size) h2 (fun k e => by omega)⟩
theorem lm_rise {A : Ob} {w0 w : World} {a : Nat} {P : List Pt} {f : Int} (h : LM w0 (Star (BufO a P f) A) w) : Rise P := by
  obtain ⟨_, F, ⟨F1, _, h1, _⟩, _⟩ := h
  exact BufL.rise h1
set_option maxHeartbeats 8000000 in
set_option maxRecDepth 100000 in
theorem btrims_any (A : Option Addr) (l : List ActV) (cap : Nat) (x y : Int) (w : World) (hA : RAct w A l) :
    Calls Try.prog 5 #[.slice A l.length cap, .int .i64 x, .int .i64 y] w fun e w' => e = .returned (.bool true) ∧ Below w.heap.size w w' := by
  obtain ⟨N, hN⟩ : ∃ N, l.length = N := ⟨_, rfl⟩
  have HN := Lib.hid hN
  have HA := Lib.hid hA
  rw [hN]
  clear hA hN
  go_enter Try.func5, Try.ntmps5
  go_wp2_with fail
  refine (lives_any w).mono ?_
  rintro e w1 ⟨rfl, hb⟩
  have HB1 := Lib.hid hb
  clear hb
  by_cases hg : (400 : Int) < (N : Int) ∨ x < 0 ∨ y < x ∨ 1099511627776 < y
  · by_cases h1 : (400 : Int) < (N : Int)
    · go_wp2_with fail
      go_ret
      exact ⟨rfl, HB1.out⟩
    · by_cases h2 : x < 0
      · go_wp2_with fail
        go_ret
        exact ⟨rfl, HB1.out⟩
      · by_cases h3 : y < x
        · go_wp2_with fail
          go_ret
          exact ⟨rfl, HB1.out⟩
        · have h4 : 1099511627776 < y := by omega
          go_wp2_with fail
          go_ret
          exact ⟨rfl, HB1.out⟩
  obtain ⟨h1, h2, h3, h4⟩ : ¬ (400 : Int) < (N : Int) ∧ ¬ x < 0 ∧ ¬ y < x ∧ ¬ 1099511627776 < y := by omega
  have HNm : Hid (N ≤ 400) := Lib.hid (by omega)
  have HXY : Hid (0 ≤ x ∧ x ≤ y ∧ y ≤ 1099511627776) := Lib.hid (by omega)
  clear hg
  go_wp2_with fail
  clear h1 h2 h3 h4
  refine (new_lm HB1.out).mono ?_
  rintro e w2 ⟨rfl, h2⟩
  have HS := Lib.hid h2
  obtain ⟨a, ha⟩ : ∃ a, w1.heap.size = a := ⟨_, rfl⟩
  rw [ha] at HS
  clear h2
  go_wp2_with fail
  clear ha
  refine (new_more (BufO.obj _ _ _) HS.out).mono ?_
  rintro e w3 ⟨rfl, h3⟩
  obtain ⟨b, hb⟩ : ∃ b, w2.heap.size = b := ⟨_, rfl⟩
  rw [hb] at h3
  have HT := Lib.hid h3
  clear h3 HS
  go_wp2_with fail
  clear hb
  go_loopw [9] (fun v wr => ∃ (k : Nat) (P : List Pt), k ≤ N ∧ v = .int .i64 k ∧ Hid (LM w (Two a b P 0 P 0) wr) ∧ Hid (P.length ≤ k ∧ TmIn P)) (fun v _ => N - (intOf v).toNat)
  case atStart => exact ⟨0, [], Nat.zero_le _, rfl, HT, Lib.hid ⟨by simp, by simp [TmIn]⟩⟩
  clear HT HB1
  case round =>
    obtain ⟨k, P, hk, rfl, HT, HP⟩ := hrel
    by_cases h0 : k < N
    · have hkl : k < l.length := by rw [HN.out]; exact h0
      obtain ⟨ad, rfl, _, _⟩ := HA.out (by omega)
      have HX0 := Lib.hid h0
      have HCL : Hid (∀ W, Below w.heap.size w W → W.cell? (ad.add (k * 3)) = some (.int .i64 l[k].1) ∧ W.cell? { block := (ad.add (k * 3)).block, off := (ad.add (k * 3)).off + 1 } = some (.int .i64 l[k].2.1) ∧ W.cell? { block := (ad.add (k * 3)).block, off := (ad.add (k * 3)).off + 2 } = some (.int .i64 l[k].2.2)) := Lib.hid (fun W hb => by
        obtain ⟨ad', e, _, h⟩ := HA.out.below hb (by omega)
        cases e
        exact h.at_ k hkl)
      obtain ⟨⟨kd, t, m⟩, hx⟩ : ∃ x, l[k] = x := ⟨_, rfl⟩
      rw [hx] at HCL
      obtain ⟨x1, hq⟩ : ∃ x, putE t P 0 = x := ⟨_, rfl⟩
      obtain ⟨P', hp⟩ : ∃ P', putP t m P 0 = P' := ⟨_, rfl⟩
      have HR := lm_rise HT.out
      have HP' : Hid (P'.length ≤ k + 1 ∧ TmIn P') := Lib.hid ⟨by rw [← hp]; have := putP_len (t := t) (m := m) (fl := 0) HR; have := HP.out.1; omega, by rw [← hp]; exact putP_in HP.out.2⟩
      have HC1 := Lib.hid (fun W (h : LM w (Two a b P 0 P 0) W) => h.turn1 (BufO.obj _ _ _) (fun F h => put_go t m hq hp h))
      have HC2 := Lib.hid (fun W (h : LM w (Two a b P' 0 P 0) W) => h.turn2 (BufO.obj _ _ _) (fun F h => put_go t m hq hp h))
      have hnm := HNm.out
      obtain ⟨c0, c1, c2⟩ := HCL.out _ HT.out.below
      have hw : IntKind.i64.wrap ((k : Int) + 1) = ((k + 1 : Nat) : Int) := by rw [IntKind.wrap_i64]; omega
      clear hkl hx hq hp HR
      go_wp2_with fail
      clear c0 c1 c2
      refine wp_region_fork 25 (.q 0 (.q 1 (.q 2 (.q 3 (.q 4 (.q 5 (.q 6 (.q 7 (.q 8 (.q 9 (.q 10 (.q 12 (.q 13 (.q 14 (.q 15 (.q 16 (.q 17 (.q 18 (.q 19 (.q 20 (.q 21 (.q 22 (.alt 11 (.alt 23 (.q 24 .nil) .stop) .stop))))))))))))))))))))))) (Below w.heap.size w) (LM w (Two a b P 0 P 0)) (by kernel_rfl) (by kernel_rfl) (Stab.below _ _ (Nat.le_refl _)) (fun _ _ h hb => h.go (two_obj _ _ _ _ _ _) hb) (HT.out.below.drew) (HT.out.go (two_obj _ _ _ _ _ _) (Below.refl _ _).drew) ?_
      repeat (first | (refine wf_q rfl rfl ?_; apply Exists.intro; refine ⟨fun w' hw' => ?_, fun K hK => ?_⟩; (focus ((obtain ⟨c0, c1, c2⟩ := HCL.out _ hw'); go_simp; first | exact quiet_value | fail)); simp only [Act.put, List.setIfInBounds_toArray, List.set_cons_zero, List.set_cons_succ]; refine hK.out _ ?_; clear hK K) | (refine wf_skip rfl rfl (fun K hK => ?_); simp only [Act.put, List.setIfInBounds_toArray, List.set_cons_zero, List.set_cons_succ]; refine hK.out _ ?_; clear hK K) | (refine wf_skipu rfl rfl (fun K hK => ?_); simp only [Act.put, List.setIfInBounds_toArray, List.set_cons_zero, List.set_cons_succ]; refine hK.out _ ?_; clear hK K))
      refine wf_step (fun u _ => u = .int .i64 x1) (fun _ W => LM w (Two a b P' 0 P 0) W) (fun _ _ _ h _ => h) (fun _ _ _ h hb => h.go (two_obj _ _ _ _ _ _) hb) rfl rfl (fun w' hc hd => ?_) (fun K hK v => ?_) wf_stop
      focus
        have HC := Lib.hid hc
        have HDD := Lib.hid hd
        clear hc hd
        go_simp
        refine st_enter ?_
        exact (HC1.out _ HDD.out).mono fun _ _ h => ⟨_, h.1, h.2.below, rfl, h.2⟩
      simp only [Act.put, List.setIfInBounds_toArray, List.set_cons_zero, List.set_cons_succ]
      refine hK.out _ _ _ ?_
      clear hK K
      refine wf_step (fun u _ => u = .int .i64 x1) (fun _ W => LM w (Two a b P' 0 P' 0) W) (fun _ _ _ h _ => h) (fun _ _ _ h hb => h.go (two_obj _ _ _ _ _ _) hb) rfl rfl (fun w' hc hd => ?_) (fun K hK v2 => ?_) wf_stop
      focus
        have HC := Lib.hid hc
        have HDD := Lib.hid hd
        clear hc hd
        go_simp
        refine st_enter ?_
        exact (HC2.out _ HDD.out).mono fun _ _ h => ⟨_, h.1, ⟨h.2.below, HC.out.2⟩, rfl, h.2⟩
      simp only [Act.put, List.setIfInBounds_toArray, List.set_cons_zero, List.set_cons_succ]
      refine hK.out _ _ _ ?_
      clear hK K
      repeat (first | (refine wf_q rfl rfl ?_; apply Exists.intro; refine ⟨fun w' hw' => ?_, fun K hK => ?_⟩; (focus ((obtain ⟨⟨_, e1⟩, e2⟩ := hw'; subst e1 e2); go_simp; first | exact quiet_value | fail)); simp only [Act.put, List.setIfInBounds_toArray, List.set_cons_zero, List.set_cons_succ]; refine hK.out _ ?_; clear hK K) | (refine wf_skip rfl rfl (fun K hK => ?_); simp only [Act.put, List.setIfInBounds_toArray, List.set_cons_zero, List.set_cons_succ]; refine hK.out _ ?_; clear hK K) | (refine wf_skipu rfl rfl (fun K hK => ?_); simp only [Act.put, List.setIfInBounds_toArray, List.set_cons_zero, List.set_cons_succ]; refine hK.out _ ?_; clear hK K))
      refine wf_nil ?_
      rintro w7 ⟨⟨hb7, rfl⟩, rfl⟩ ht7
      have HT7 := Lib.hid ht7
      clear hb7 ht7 HC1 HC2
      (try simp only [List.drop_succ_cons]); (try simp only [List.drop_zero]); (try simp only [List.drop_nil])
      go_wp2_with fail
      go_roundw
      case rel => exact ⟨k + 1, P', HX0.out, rfl, HT7, HP'⟩
      case measure =>
        have h1 := HX0.out
        simp [intOf]; omega
    · obtain rfl : k = N := by omega
      have hnm := HNm.out
      obtain ⟨Q, hQ⟩ : ∃ Q, aboveP x P = Q := ⟨_, rfl⟩
      obtain ⟨R, hR⟩ : ∃ Q, aboveP y P = Q := ⟨_, rfl⟩
      have hQR : aboveP y Q = R := by rw [← hQ, above_above HXY.out.2.1]; exact hR
      obtain ⟨n0, hn0⟩ : ∃ n, P.length = n := ⟨_, rfl⟩
      obtain ⟨n1, hn1⟩ : ∃ n, Q.length = n := ⟨_, rfl⟩
      obtain ⟨n2, hn2⟩ : ∃ n, R.length = n := ⟨_, rfl⟩
      have hle1 : n1 ≤ n0 := by rw [← hn1, ← hn0, ← hQ]; exact above_len _ _
      have hle2 : n2 ≤ n1 := by rw [← hn1, ← hn2, ← hQR]; exact above_len _ _
      have hle0 : n0 ≤ k := by rw [← hn0]; exact HP.out.1
      have HTR : Hid (TmIn R) := Lib.hid (by rw [← hR]; exact above_in HP.out.2)
      have HRR : Hid (Rise R) := Lib.hid (by rw [← hR]; exact (lm_rise HT.out).filter _)
      have HRY : Hid (∀ q ∈ R, y < q.1) := Lib.hid (by rw [← hR]; intro q hq; simpa using (List.mem_filter.1 hq).2)
      have E1 : trimE x P 0 = (((n0 - n1 : Nat) : Int), 0) := by unfold trimE; rw [if_neg (by have := HXY.out; omega), hQ, hn0, hn1]
      have E2 : trimE y Q x = (((n1 - n2 : Nat) : Int), 0) := by unfold trimE; rw [if_neg (by have := HXY.out; omega), hQR, hn1, hn2]
      have E3 : trimE y P 0 = (((n0 - n2 : Nat) : Int), 0) := by unfold trimE; rw [if_neg (by have := HXY.out; omega), hR, hn0, hn2]
      have F1 : trimP x P 0 = Q := by unfold trimP; rw [if_neg (by have := HXY.out; omega)]; exact hQ
      have F2 : trimP y Q x = R := by unfold trimP; rw [if_neg (by have := HXY.out; omega)]; exact hQR
      have F3 : trimP y P 0 = R := by unfold trimP; rw [if_neg (by have := HXY.out; omega)]; exact hR
      have G1 : trimF x 0 = x := by unfold trimF; rw [if_neg (by have := HXY.out; omega)]
      have G2 : trimF y x = y := by unfold trimF; rw [if_neg (by have := HXY.out; omega)]
      have G3 : trimF y 0 = y := by unfold trimF; rw [if_neg (by have := HXY.out; omega)]
      obtain ⟨d1, hd1⟩ : ∃ d, ((n0 - n1 : Nat) : Int) = d := ⟨_, rfl⟩
      obtain ⟨d2, hd2⟩ : ∃ d, ((n1 - n2 : Nat) : Int) = d := ⟨_, rfl⟩
      obtain ⟨d3, hd3⟩ : ∃ d, ((n0 - n2 : Nat) : Int) = d := ⟨_, rfl⟩
      rw [hd1] at E1
      rw [hd2] at E2
      rw [hd3] at E3
      have hs1 : IntKind.i64.wrap (d1 + d2) = d3 := by rw [IntKind.wrap_i64]; omega
      have hs2 : IntKind.i64.wrap ((n0 : Int) - d3) = (n2 : Int) := by rw [IntKind.wrap_i64]; omega
      have C1 := Lib.hid (fun W (h : LM w (Two a b P 0 P 0) W) => h.read1 (fun F h => len_go hn0 h))
      have C2 := Lib.hid (fun W (h : LM w (Two a b P 0 P 0) W) => h.turn1 (BufO.obj _ _ _) (fun F h => trim_go x E1 F1 G1 h))
      have C3 := Lib.hid (fun W (h : LM w (Two a b Q x P 0) W) => h.turn1 (BufO.obj _ _ _) (fun F h => trim_go y E2 F2 G2 h))
      have C4 := Lib.hid (fun W (h : LM w (Two a b R y P 0) W) => h.turn2 (BufO.obj _ _ _) (fun F h => trim_go y E3 F3 G3 h))
      have C5 := Lib.hid (fun W (h : LM w (Two a b R y R y) W) => h.read1 (fun F h => len_go hn2 h))
      have C6 := Lib.hid (fun W (h : LM w (Two a b R y R y) W) => h.read1 (fun F h => floor_go h))
      have C7 := Lib.hid (fun W (h : LM w (Two a b R y R y) W) => h.read1 (fun F h => pts_go (above_zero HTR.out) hn2 h))
      have C8 := Lib.hid (fun W (h : LM w (Two a b R y R y) W) => h.read2 (fun F h => pts_go (above_zero HTR.out) hn2 h))
      have C9 := Lib.hid (fun W (h : LM w (Two a b R y R y) W) => h.read1 (fun F h => range_go (-1) 1099511627776 (range_whole HTR.out) hn2 h))
      have HN2 := Lib.hid hn2
      clear E1 E2 E3 F1 F2 F3 G1 G2 G3 hQ hR hQR hn0 hn1 hn2 hd1 hd2 hd3
      go_wp2_with fail
      refine (C1.out _ HT.out).mono ?_; rintro e w5 ⟨rfl, h5⟩; replace HT := Lib.hid (HT.out.go (two_obj _ _ _ _ _ _) h5); clear h5; go_wp2_with fail
      refine (C2.out _ HT.out).mono ?_; rintro e w5 ⟨rfl, h5⟩; replace HT := Lib.hid h5; clear h5; go_wp2_with fail
      refine (C3.out _ HT.out).mono ?_; rintro e w5 ⟨rfl, h5⟩; replace HT := Lib.hid h5; clear h5; go_wp2_with fail
      refine (C4.out _ HT.out).mono ?_; rintro e w5 ⟨rfl, h5⟩; replace HT := Lib.hid h5; clear h5; go_wp2_with fail
      refine (C5.out _ HT.out).mono ?_; rintro e w5 ⟨rfl, h5⟩; replace HT := Lib.hid (HT.out.go (two_obj _ _ _ _ _ _) h5); clear h5; go_wp2_with fail
      refine (C6.out _ HT.out).mono ?_; rintro e w5 ⟨rfl, h5⟩; replace HT := Lib.hid (HT.out.go (two_obj _ _ _ _ _ _) h5); clear h5; go_wp2_with fail
      refine (C7.out _ HT.out).mono ?_
      rintro e w5 ⟨A1, c1, rfl, r1, h5⟩
      have HR1 := Lib.hid r1
      replace HT := Lib.hid (HT.out.go (two_obj _ _ _ _ _ _) h5)
      clear r1 h5
      go_wp2_with fail
      refine (C8.out _ HT.out).mono ?_
      rintro e w6 ⟨A2, c2, rfl, r2, h5⟩
      replace HT := Lib.hid (HT.out.go (two_obj _ _ _ _ _ _) h5)
      have HK := Lib.hid (kpts_any (or_below HR1.out h5) r2 HN2.out (by omega))
      clear r2 h5 HR1
      go_wp2_with fail
      refine HK.out.mono ?_
      rintro e w7 ⟨rfl, h5⟩
      replace HT := Lib.hid (HT.out.go (two_obj _ _ _ _ _ _) h5)
      clear h5 HK
      go_wp2_with fail
      refine (C7.out _ HT.out).mono ?_
      rintro e w8 ⟨A3, c3, rfl, r1, h5⟩
      have HR1 := Lib.hid r1
      replace HT := Lib.hid (HT.out.go (two_obj _ _ _ _ _ _) h5)
      clear r1 h5
      go_wp2_with fail
      refine (C9.out _ HT.out).mono ?_
      rintro e w9 ⟨A4, c4, rfl, r2, h5⟩
      replace HT := Lib.hid (HT.out.go (two_obj _ _ _ _ _ _) h5)
      have HK := Lib.hid (kpts_any (or_below HR1.out h5) r2 HN2.out (by omega))
      clear r2 h5 HR1
      go_wp2_with fail
      refine HK.out.mono ?_
      rintro e w10 ⟨rfl, h5⟩
      replace HT := Lib.hid (HT.out.go (two_obj _ _ _ _ _ _) h5)
      clear h5 HK
      go_wp2_with fail
      refine (C7.out _ HT.out).mono ?_
      rintro e w11 ⟨A5, c5, rfl, r1, h5⟩
      have HR1 := Lib.hid r1
      replace HT := Lib.hid (HT.out.go (two_obj _ _ _ _ _ _) h5)
      clear r1 h5 C1 C2 C3 C4
      go_wp2_with fail
      go_loopw [18] (fun v wr => ∃ j : Nat, v = .int .i64 (j : Int) ∧ j ≤ n2 ∧ Hid (LM w (Two a b R y R y) wr) ∧ Hid (Below w11.heap.size w11 wr)) (fun v _ => n2 - (intOf v).toNat)
      case atStart => exact ⟨0, rfl, Nat.zero_le _, HT, Lib.hid (Below.refl _ _)⟩
      case round =>
        clear HT
        obtain ⟨j, rfl, hj, HT, HBj⟩ := hrel
        by_cases hjl : j < n2
        · obtain ⟨g1, p, rfl, hp, hg1, hp1⟩ := or_pt HR1.out HBj.out hjl HN2.out
          have hjR : j < R.length := by rw [HN2.out]; exact hjl
          have hpe : R[j] = p := by rw [List.getElem?_eq_getElem hjR] at hp; exact Option.some.inj hp
          have hy := HRY.out p (by rw [← hpe]; exact List.getElem_mem hjR)
          have HC1 := Lib.hid (fun (W : World) (hb : Below wr.heap.size wr W) => (hp1.below (Nat.lt_of_lt_of_le hg1 HBj.out.size) hb).1)
          obtain ⟨t1, ht1⟩ : ∃ t, p.1 = t := ⟨_, rfl⟩
          rw [ht1] at HC1 hy
          have hny : decide (t1 ≤ y) = false := by simp; omega
          have hw : IntKind.i64.wrap ((j : Int) + 1) = ((j + 1 : Nat) : Int) := by rw [IntKind.wrap_i64]; omega
          by_cases hj0 : j = 0
          · subst hj0
            clear hp hp1 hg1 hpe ht1 hjR hy
            have hz2 : (0 : Int) < (n2 : Int) := by omega
            go_wp2_with fail
            refine wp_region_here 25 [(0, false), (1, false), (2, false), (3, false), (4, false), (5, false), (6, false), (7, false), (8, false), (9, false), (10, false), (11, false), (12, false), (13, false), (14, false), (15, false), (16, false), (17, false), (18, false), (19, false), (20, false), (21, false), (22, false), (23, false), (24, false)] (fun _ => .cells #[] 0) (by kernel_rfl) (by kernel_rfl) ?_
            repeat (first | (refine wpP_q rfl rfl rfl ?_; apply Exists.intro; refine ⟨fun w' hw' => ?_, fun K hK => ?_⟩; (focus ((have z0 := HC1.out _ hw'); go_simp; first | exact quiet_value | fail)); simp only [Act.put, List.setIfInBounds_toArray, List.set_cons_zero, List.set_cons_succ]; refine hK.out _ ?_; clear hK K) | (refine wpP_skip rfl rfl rfl (fun K hK => ?_); simp only [Act.put, List.setIfInBounds_toArray, List.set_cons_zero, List.set_cons_succ]; refine hK.out _ ?_; clear hK K))
            refine wpP_nil ?_
            intro w12 hb12
            have HT2 := Lib.hid (HT.out.go (two_obj _ _ _ _ _ _) hb12)
            have HBj2 := Lib.hid (HBj.out.trans (hb12.mono HBj.out.size))
            clear hb12
            (try simp only [List.drop_succ_cons]); (try simp only [List.drop_zero]); (try simp only [List.drop_nil])
            go_wp2_with fail
            go_roundw
            case rel => exact ⟨1, rfl, by omega, HT2, HBj2⟩
            case measure => simp [intOf]; omega
          · have hjl' : j - 1 < n2 := by omega
            obtain ⟨g2, p', hg, hp', hg2, hp2⟩ := or_pt HR1.out HBj.out hjl' HN2.out
            cases hg
            have hjR' : j - 1 < R.length := by rw [HN2.out]; exact hjl'
            have hpe' : R[j - 1] = p' := by rw [List.getElem?_eq_getElem hjR'] at hp'; exact Option.some.inj hp'
            have hlt := List.pairwise_iff_getElem.1 HRR.out (j - 1) j hjR' hjR (by omega)
            rw [hpe, hpe', ht1] at hlt
            obtain ⟨t2, ht2⟩ : ∃ t, p'.1 = t := ⟨_, rfl⟩
            obtain ⟨i, hi⟩ : ∃ i, j - 1 = i := ⟨_, rfl⟩
            have HC2 := Lib.hid (fun (W : World) (hb : Below wr.heap.size wr W) => (hp2.below (Nat.lt_of_lt_of_le hg2 HBj.out.size) hb).1)
            rw [ht2, hi] at HC2
            rw [ht2] at hlt
            have hn2 : decide (t1 ≤ t2) = false := by simp; omega
            have hw2 : IntKind.i64.wrap ((j : Int) - 1) = (i : Int) := by rw [IntKind.wrap_i64]; omega
            have hz : decide ((0 : Int) < (j : Int)) = true := by simp; omega
            have hz3 : decide (0 < j) = true := by simp; omega
            have hz4 : 0 < j := by omega
            have hi2 : (i : Int) < (n2 : Int) := by omega
            clear hp hp1 hg1 hpe ht1 hjR hy hp' hp2 hg2 hpe' ht2 hjR' hlt hjl' hi hj0
            go_wp2_with fail
            refine wp_region_here 25 [(0, false), (1, false), (2, false), (3, false), (4, false), (5, false), (6, false), (7, false), (8, false), (9, false), (10, false), (11, false), (12, false), (13, false), (14, false), (15, false), (16, false), (17, false), (18, false), (19, false), (20, false), (21, false), (22, false), (23, false), (24, false)] (fun _ => .cells #[] 0) (by kernel_rfl) (by kernel_rfl) ?_
            repeat (first | (refine wpP_q rfl rfl rfl ?_; apply Exists.intro; refine ⟨fun w' hw' => ?_, fun K hK => ?_⟩; (focus ((have z0 := HC1.out _ hw'; have z1 := HC2.out _ hw'); go_simp; first | exact quiet_value | fail)); simp only [Act.put, List.setIfInBounds_toArray, List.set_cons_zero, List.set_cons_succ]; refine hK.out _ ?_; clear hK K) | (refine wpP_skip rfl rfl rfl (fun K hK => ?_); simp only [Act.put, List.setIfInBounds_toArray, List.set_cons_zero, List.set_cons_succ]; refine hK.out _ ?_; clear hK K))
            refine wpP_nil ?_
            intro w12 hb12
            have HT2 := Lib.hid (HT.out.go (two_obj _ _ _ _ _ _) hb12)
            have HBj2 := Lib.hid (HBj.out.trans (hb12.mono HBj.out.size))
            clear hb12
            (try simp only [List.drop_succ_cons]); (try simp only [List.drop_zero]); (try simp only [List.drop_nil])
            go_wp2_with fail
            go_roundw
            case rel => exact ⟨j + 1, rfl, by omega, HT2, HBj2⟩
            case measure => simp [intOf]; omega
        · obtain rfl : j = n2 := by omega
          have hxy := HXY.out
          clear HR1 HBj C5 C6 C7 C9
          by_cases hy0 : y = 0
          · subst hy0
            go_wp2_with fail
            go_ret
            exact ⟨rfl, HT.out.below⟩
          · have hyn : ¬ (y == 0) = true := by simpa using hy0
            have E4 : putE y R y = 8 := by unfold putE; rw [if_neg (by omega), if_pos (Int.le_refl _)]
            have F4 : putP y 1 R y = R := by unfold putP; rw [E4]; rfl
            have D1 := Lib.hid (fun W (h : LM w (Two a b R y R y) W) => h.turn1 (BufO.obj _ _ _) (fun F h => put_go y 1 E4 F4 h))
            have D2 := Lib.hid (fun W (h : LM w (Two a b R y R y) W) => h.read2 (fun F h => len_go HN2.out h))
            clear E4 F4
            go_wp2_with fail
            refine (D1.out _ HT.out).mono ?_; rintro e w5 ⟨rfl, h5⟩; replace HT := Lib.hid h5; clear h5; go_wp2_with fail
            refine (D2.out _ HT.out).mono ?_; rintro e w5 ⟨rfl, h5⟩; replace HT := Lib.hid (HT.out.go (two_obj _ _ _ _ _ _) h5); clear h5; go_wp2_with fail
            go_ret
            exact ⟨rfl, HT.out.below⟩
end Go.Proofs.Ytfblmmnofhkkaaa
