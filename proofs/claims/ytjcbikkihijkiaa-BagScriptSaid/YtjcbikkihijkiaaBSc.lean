/- BagScript, walked. -/
import Derived.Test.YtjcbikkihijkiaaRbE
import Derived.Test.YtjcbikkihijkiaaOpC
import Derived.Test.YtjcbikkihijkiaaStr
namespace Go.Proofs.Ytjcbikkihijkiaa
open Go.RowKit
/-- A row of counts, read. -/
def PvO (L : List (Int × Nat)) (v : Value) (W : World) : Prop := ∃ a c base, v = .slice a L.length c ∧ W.ownsRow base 34 2 (.slice a L.length c) L.length (oftF L)
theorem PvO.stab (L : List (Int × Nat)) (v : Value) : Stab (PvO L v) := fun _ _ h hb => by
  obtain ⟨a, c, base, h1, h2⟩ := h; exact ⟨a, c, base, h1, own_bel h2 hb⟩
theorem RVb.conv {m : List UInt8} {v : Value} {W : World} (h : RVb m v W) : (convert 49 9 v).run Try.prog W = .ok (.string ⟨m.toArray⟩) W := by
  obtain ⟨A, c, rfl, h2⟩ := h
  exact conv_rd h2
/-- A step of the script. -/
def actLs (tk : Bool) (n : Int) (ov : Bool) (L : List (Int × Nat)) (o : Nat) : Int × List (Int × Nat) × Nat := if tk then takeLs n ov L o else (chk n ov, putLs n ov L o)
theorem actLs_sum (tk : Bool) (n : Int) (ov : Bool) {L : List (Int × Nat)} (o : Nat) (h : OkL L) : (actLs tk n ov L o).2.2 + sumL (actLs tk n ov L o).2.1 ≤ o + sumL L + 1 := by
  unfold actLs
  cases tk
  · exact put_sum n ov L o
  · have := (take_tells h n ov o).2.2.2; simp only [if_true]; omega
set_option maxHeartbeats 8000000 in
set_option maxRecDepth 100000 in
theorem bscript_any (A : Option Addr) (l : List ActV) (cap : Nat) (w : World) (hA : RAct w A l) (hl : ∀ a ∈ l, In64 a.2.1) :
    Calls Try.prog 4 #[.slice A l.length cap] w fun e w' => e = .returned (.bool true) ∧ Below w.heap.size w w' := by
  obtain ⟨N, hN⟩ : ∃ N, l.length = N := ⟨_, rfl⟩
  have HN := Lib.hid hN
  have HA := Lib.hid hA
  have HL := Lib.hid hl
  rw [hN]
  clear hA hl hN
  go_enter Try.func4, Try.ntmps4
  go_wp2_with fail
  refine (lives_any w).mono ?_
  rintro e w1 ⟨rfl, hb⟩
  have HB1 := Lib.hid hb
  clear hb
  by_cases h1 : (400 : Int) < (N : Int)
  · go_wp2_with fail
    go_ret
    exact ⟨rfl, HB1.out⟩
  have HNm : Hid (N ≤ 400) := Lib.hid (by omega)
  go_wp2_with fail
  refine (bnew_L _).mono ?_
  rintro e w2 ⟨rfl, hb2, hbb, hs2⟩
  have HS2 := Lib.hid hb2
  have HBB := Lib.hid hbb
  have HSz := Lib.hid hs2
  obtain ⟨b, hbe⟩ : ∃ b, w1.heap.size = b := ⟨_, rfl⟩
  have HBe := Lib.hid hbe
  rw [hbe] at HS2 HSz
  clear hb2 hbb hs2
  go_wp2_with fail
  clear hbe
  refine (rnew_any _).mono ?_
  rintro e w3 ⟨rfl, hr3, hbr, hs3⟩
  obtain ⟨r, hre⟩ : ∃ r, w2.heap.size = r := ⟨_, rfl⟩
  have HT : Hid (DuoB w3 w.heap.size b r [] 0 [] 0) := Lib.hid ⟨fun i => i = b, fun i => i = r, HS2.out.below hbr, by rw [← hre]; exact hr3, fun k hk => by have := HSz.out; omega, fun k hk => by have := HB1.out.size; have := HBe.out; have := HSz.out; omega, fun k hk => by have := HB1.out.size; have := HBe.out; have := HSz.out; omega⟩
  have HB3 : Hid (Below w.heap.size w w3) := Lib.hid ((HB1.out.trans (HBB.out.mono HB1.out.size)).trans (hbr.mono (by have := HB1.out.size; have := HBB.out.size; omega)))
  clear hr3 hbr hs3 HS2 HBB HSz HBe
  go_wp2_with fail
  clear hre
  go_loopw [5] (fun y wr => ∃ (k : Nat) (L : List (Int × Nat)) (o : Nat), k ≤ N ∧ y = .int .i64 k ∧ Hid (DuoB wr w.heap.size b r L o L o) ∧ Hid (o + sumL L ≤ k) ∧ Hid (Below w.heap.size w wr)) (fun y _ => N - (intOf y).toNat)
  case atStart => exact ⟨0, [], 0, Nat.zero_le _, rfl, HT, Lib.hid (by simp [sumL]), HB3⟩
  clear HT HB3 HB1
  case round =>
    obtain ⟨k, L, o, hk, rfl, HT, HSm, HB⟩ := hrel
    by_cases h0 : k < N
    · have hkl : k < l.length := by rw [HN.out]; exact h0
      obtain ⟨ad, rfl, _, _⟩ := HA.out (by omega)
      have HX0 := Lib.hid h0
      have HCL : Hid (∀ W, Below w.heap.size w W → W.cell? (ad.add (k * 3)) = some (.bool l[k].1) ∧ W.cell? { block := (ad.add (k * 3)).block, off := (ad.add (k * 3)).off + 1 } = some (.int .i64 l[k].2.1) ∧ W.cell? { block := (ad.add (k * 3)).block, off := (ad.add (k * 3)).off + 2 } = some (.bool l[k].2.2)) := Lib.hid (fun W hb => by
        obtain ⟨ad', e, _, h⟩ := HA.out.below hb (by omega)
        cases e
        exact h.at_ k hkl)
      have hI := HL.out l[k] (List.getElem_mem hkl)
      obtain ⟨⟨tk, n, ov⟩, hx⟩ : ∃ x, l[k] = x := ⟨_, rfl⟩
      rw [hx] at HCL hI
      have HI : Hid (I64 n) := Lib.hid hI
      obtain ⟨x, L', o', hq⟩ : ∃ x L' o', actLs tk n ov L o = (x, L', o') := ⟨_, _, _, rfl⟩
      have HQ := Lib.hid hq
      have HSm2 : Hid (o' + sumL L' ≤ k + 1) := Lib.hid (by have := actLs_sum tk n ov o HT.out.ok; rw [hq] at this; have := HSm.out; simp only at *; omega)
      have hsm := HSm.out
      have hnm := HNm.out
      obtain ⟨c0, c1, c2⟩ := HCL.out _ HB.out
      have hw : IntKind.i64.wrap ((k : Int) + 1) = ((k + 1 : Nat) : Int) := by rw [IntKind.wrap_i64]; omega
      clear hkl hI hx hq
      cases tk
      case false =>
        have HC1 := Lib.hid (fun W (h : DuoB W w.heap.size b r L o L o) (hn : w.heap.size ≤ W.heap.size) => h.op1 hn (fun F hF => by have := bput_L n ov HI.out hF (by omega) (by omega); rw [show chk n ov = x from congrArg (·.1) HQ.out, show putLs n ov L o = (L', o') from congrArg (·.2) HQ.out] at this; exact this))
        have HC2 := Lib.hid (fun W (h : DuoB W w.heap.size b r L' o' L o) (hn : w.heap.size ≤ W.heap.size) => h.op2 hn (fun F hF => by have := rput_any n ov hF HT.out.ok (by omega); rw [show chk n ov = x from congrArg (·.1) HQ.out, show putLs n ov L o = (L', o') from congrArg (·.2) HQ.out] at this; exact this))
        go_wp2_with fail
        clear c0 c1 c2
        refine wp_region_fork 14 (.q 0 (.q 1 (.q 2 (.q 3 (.q 4 (.q 5 (.q 7 (.q 8 (.q 9 (.q 10 (.q 11 (.q 12 (.alt 6 (.alt 13 .nil .stop) .stop))))))))))))) (Below w.heap.size w) (fun W => DuoB W w.heap.size b r L o L o) (by kernel_rfl) (by kernel_rfl) (Stab.below _ _ (Nat.le_refl _)) (fun _ _ h hb => h.below hb) (HB.out.drew) (HT.out.below (Below.refl _ _).drew) ?_
        repeat (first | (refine wf_q rfl rfl ?_; apply Exists.intro; refine ⟨fun w' hw' => ?_, fun K hK => ?_⟩; (focus ((obtain ⟨c0, c1, c2⟩ := HCL.out _ hw'); go_simp; first | exact quiet_value | fail)); simp only [Act.put, List.setIfInBounds_toArray, List.set_cons_zero, List.set_cons_succ]; refine hK.out _ ?_; clear hK K) | (refine wf_skip rfl rfl (fun K hK => ?_); simp only [Act.put, List.setIfInBounds_toArray, List.set_cons_zero, List.set_cons_succ]; refine hK.out _ ?_; clear hK K) | (refine wf_skipu rfl rfl (fun K hK => ?_); simp only [Act.put, List.setIfInBounds_toArray, List.set_cons_zero, List.set_cons_succ]; refine hK.out _ ?_; clear hK K))
        refine wf_step (fun u _ => u = .int .i64 x) (fun _ W => DuoB W w.heap.size b r L' o' L o) (fun _ _ _ h _ => h) (fun _ _ _ h hb => h.below hb) rfl rfl (fun w' hc hd => ?_) (fun K hK v => ?_) wf_stop
        focus
          have HC := Lib.hid hc
          have HDD := Lib.hid hd
          clear hc hd
          go_simp
          refine st_enter ?_
          exact (HC1.out _ HDD.out HC.out.size).mono fun _ _ h => ⟨_, h.1, HC.out.trans h.2.2, rfl, h.2.1⟩
        simp only [Act.put, List.setIfInBounds_toArray, List.set_cons_zero, List.set_cons_succ]
        refine hK.out _ _ _ ?_
        clear hK K
        refine wf_step (fun u _ => u = .int .i64 x) (fun _ W => DuoB W w.heap.size b r L' o' L' o') (fun _ _ _ h _ => h) (fun _ _ _ h hb => h.below hb) rfl rfl (fun w' hc hd => ?_) (fun K hK v2 => ?_) wf_stop
        focus
          have HC := Lib.hid hc
          have HDD := Lib.hid hd
          clear hc hd
          go_simp
          refine st_enter ?_
          exact (HC2.out _ HDD.out HC.out.1.size).mono fun _ _ h => ⟨_, h.1, ⟨HC.out.1.trans h.2.2, HC.out.2⟩, rfl, h.2.1⟩
        simp only [Act.put, List.setIfInBounds_toArray, List.set_cons_zero, List.set_cons_succ]
        refine hK.out _ _ _ ?_
        clear hK K
        refine wf_nil ?_
        rintro w7 ⟨⟨hb7, rfl⟩, rfl⟩ ht7
        replace HB := Lib.hid hb7
        replace HT := Lib.hid ht7
        have CS := Lib.hid (same_any n HT.out (by have := HSm2.out; omega))
        obtain ⟨c0, c1, c2⟩ := HCL.out _ HB.out
        clear hb7 ht7 HC1 HC2 HQ
        try simp only [List.drop_succ_cons]
        go_wp2_with fail
        refine CS.out.mono ?_
        rintro e w8 ⟨rfl, hb8⟩
        replace HB := Lib.hid (HB.out.trans (hb8.mono HB.out.size))
        replace HT := Lib.hid (HT.out.below hb8)
        clear hb8 c0 c1 c2
        go_wp2_with fail
        go_roundw
        case rel => exact ⟨k + 1, L', o', HX0.out, rfl, HT, HSm2, HB⟩
        case measure =>
          have h1 := HX0.out
          simp [intOf]; omega
      case true =>
        have HC1 := Lib.hid (fun W (h : DuoB W w.heap.size b r L o L o) (hn : w.heap.size ≤ W.heap.size) => h.op1 hn (fun F hF => by have := btake_L n ov hF (by omega) (by omega); rw [show takeLs n ov L o = (x, L', o') from HQ.out] at this; exact this))
        have HC2 := Lib.hid (fun W (h : DuoB W w.heap.size b r L' o' L o) (hn : w.heap.size ≤ W.heap.size) => h.op2 hn (fun F hF => by have := rtake_any n ov hF HT.out.ok (by omega); rw [show takeLs n ov L o = (x, L', o') from HQ.out] at this; exact this))
        go_wp2_with fail
        clear c0 c1 c2
        refine wp_region_fork 14 (.q 0 (.q 1 (.q 2 (.q 3 (.q 4 (.q 5 (.q 7 (.q 8 (.q 9 (.q 10 (.q 11 (.q 12 (.alt 6 (.alt 13 .nil .stop) .stop))))))))))))) (Below w.heap.size w) (fun W => DuoB W w.heap.size b r L o L o) (by kernel_rfl) (by kernel_rfl) (Stab.below _ _ (Nat.le_refl _)) (fun _ _ h hb => h.below hb) (HB.out.drew) (HT.out.below (Below.refl _ _).drew) ?_
        repeat (first | (refine wf_q rfl rfl ?_; apply Exists.intro; refine ⟨fun w' hw' => ?_, fun K hK => ?_⟩; (focus ((obtain ⟨c0, c1, c2⟩ := HCL.out _ hw'); go_simp; first | exact quiet_value | fail)); simp only [Act.put, List.setIfInBounds_toArray, List.set_cons_zero, List.set_cons_succ]; refine hK.out _ ?_; clear hK K) | (refine wf_skip rfl rfl (fun K hK => ?_); simp only [Act.put, List.setIfInBounds_toArray, List.set_cons_zero, List.set_cons_succ]; refine hK.out _ ?_; clear hK K) | (refine wf_skipu rfl rfl (fun K hK => ?_); simp only [Act.put, List.setIfInBounds_toArray, List.set_cons_zero, List.set_cons_succ]; refine hK.out _ ?_; clear hK K))
        refine wf_step (fun u _ => u = .int .i64 x) (fun _ W => DuoB W w.heap.size b r L' o' L o) (fun _ _ _ h _ => h) (fun _ _ _ h hb => h.below hb) rfl rfl (fun w' hc hd => ?_) (fun K hK v => ?_) wf_stop
        focus
          have HC := Lib.hid hc
          have HDD := Lib.hid hd
          clear hc hd
          go_simp
          refine st_enter ?_
          exact (HC1.out _ HDD.out HC.out.size).mono fun _ _ h => ⟨_, h.1, HC.out.trans h.2.2, rfl, h.2.1⟩
        simp only [Act.put, List.setIfInBounds_toArray, List.set_cons_zero, List.set_cons_succ]
        refine hK.out _ _ _ ?_
        clear hK K
        refine wf_step (fun u _ => u = .int .i64 x) (fun _ W => DuoB W w.heap.size b r L' o' L' o') (fun _ _ _ h _ => h) (fun _ _ _ h hb => h.below hb) rfl rfl (fun w' hc hd => ?_) (fun K hK v2 => ?_) wf_stop
        focus
          have HC := Lib.hid hc
          have HDD := Lib.hid hd
          clear hc hd
          go_simp
          refine st_enter ?_
          exact (HC2.out _ HDD.out HC.out.1.size).mono fun _ _ h => ⟨_, h.1, ⟨HC.out.1.trans h.2.2, HC.out.2⟩, rfl, h.2.1⟩
        simp only [Act.put, List.setIfInBounds_toArray, List.set_cons_zero, List.set_cons_succ]
        refine hK.out _ _ _ ?_
        clear hK K
        refine wf_nil ?_
        rintro w7 ⟨⟨hb7, rfl⟩, rfl⟩ ht7
        replace HB := Lib.hid hb7
        replace HT := Lib.hid ht7
        have CS := Lib.hid (same_any n HT.out (by have := HSm2.out; omega))
        obtain ⟨c0, c1, c2⟩ := HCL.out _ HB.out
        clear hb7 ht7 HC1 HC2 HQ
        try simp only [List.drop_succ_cons]
        go_wp2_with fail
        refine CS.out.mono ?_
        rintro e w8 ⟨rfl, hb8⟩
        replace HB := Lib.hid (HB.out.trans (hb8.mono HB.out.size))
        replace HT := Lib.hid (HT.out.below hb8)
        clear hb8 c0 c1 c2
        go_wp2_with fail
        go_roundw
        case rel => exact ⟨k + 1, L', o', HX0.out, rfl, HT, HSm2, HB⟩
        case measure =>
          have h1 := HX0.out
          simp [intOf]; omega
    · obtain rfl : k = N := by omega
      have hok := HT.out.ok
      have hlen := len_sumL hok.one
      have hsm := HSm.out
      have hnm := HNm.out
      have HR : Hid (∃ A9 c9, wr.heap[r]? = some (.cells #[.slice A9 L.length c9, .int .i64 (o : Int)] 48 (0, 0)) ∧ wr.ownsRow 0 34 2 (.slice A9 L.length c9) L.length (oftF L)) := Lib.hid (by
        obtain ⟨F, G, _, h2, _⟩ := HT.out
        obtain ⟨A9, c9, g1, g2⟩ := h2.open
        exact ⟨A9, c9, g1, g2⟩)
      obtain ⟨A9, c9, hr1, hr2⟩ := HR.out
      have HR1 := Lib.hid hr1
      have HR2 := Lib.hid hr2
      have CC := Lib.hid (fun W (h : DuoB W w.heap.size b r L o L o) => h.bag (fun F hF => bcounts_L hF (by omega)))
      have CB := Lib.hid (fun W (h : DuoB W w.heap.size b r L o L o) => h.bag (fun F hF => bbytes_any hF (by omega)))
      have CR := Lib.hid (fun W (h : DuoB W w.heap.size b r L o L o) => h.ref (fun F hF => rbbytes_any hF hok (by omega)))
      have CO := Lib.hid (fun W (h : DuoB W w.heap.size b r L o L o) => h.bag (fun F hF => by have := bcount_L 0 true hF; rw [show cntLs 0 true L o = o from rfl] at this; exact this))
      have HLm : Hid (L.length ≤ 1000000) := Lib.hid (by omega)
      clear hok hlen hsm hnm hr1 hr2
      go_wp2_with fail
      refine wp_region_fork 27 (.q 0 (.q 2 (.q 3 (.q 4 (.q 5 (.alt 1 (.q 6 (.q 7 (.q 8 (.q 11 (.alt 9 (.q 10 (.alt 12 (.q 13 (.q 14 (.q 15 (.q 16 (.q 17 (.q 18 (.q 19 (.q 20 (.q 21 (.q 22 (.q 23 (.q 24 (.q 25 (.q 26 .nil)))))))))))))) .stop)) .stop))))) .stop)))))) (Below wr.heap.size wr) Triv (by kernel_rfl) (by kernel_rfl) (Stab.below _ _ (Nat.le_refl _)) Triv.stab ((Below.refl _ _).drew) (triv _) ?_
      repeat (first | (refine wf_q rfl rfl ?_; apply Exists.intro; refine ⟨fun w' hw' => ?_, fun K hK => ?_⟩; (focus ((have q0 := keepB HR1.out hw'; have j0 := cellAt (o := 0) q0 rfl; clear q0); go_simp; first | exact quiet_value | fail)); simp only [Act.put, List.setIfInBounds_toArray, List.set_cons_zero, List.set_cons_succ]; refine hK.out _ ?_; clear hK K) | (refine wf_skip rfl rfl (fun K hK => ?_); simp only [Act.put, List.setIfInBounds_toArray, List.set_cons_zero, List.set_cons_succ]; refine hK.out _ ?_; clear hK K) | (refine wf_skipu rfl rfl (fun K hK => ?_); simp only [Act.put, List.setIfInBounds_toArray, List.set_cons_zero, List.set_cons_succ]; refine hK.out _ ?_; clear hK K))
      refine wf_step (PvO L) (fun _ => Triv) (PvO.stab L) (fun _ => Triv.stab) rfl rfl (fun w' hc hd => ?_) (fun K hK v => ?_) wf_stop
      focus
        have HC := Lib.hid hc
        clear hc hd
        go_simp
        refine st_enter ?_
        exact (CC.out _ (HT.out.below HC.out)).mono fun e W' ⟨u, h1, h2, h3⟩ => ⟨u, h1, HC.out.trans (h3.mono HC.out.size), by obtain ⟨a, c, rfl⟩ := ownsRow_form h2; exact ⟨a, c, _, rfl, h2⟩, triv _⟩
      simp only [Act.put, List.setIfInBounds_toArray, List.set_cons_zero, List.set_cons_succ]
      refine hK.out _ _ _ ?_
      clear hK K
      repeat (first | (refine wf_q rfl rfl ?_; apply Exists.intro; refine ⟨fun w' hw' => ?_, fun K hK => ?_⟩; (focus ((obtain ⟨a, c, B', rfl, hp⟩ := hw'.2; have q0 := keepB HR1.out hw'.1; have j0 := cellAt (o := 0) q0 rfl; have j1 := cellAt (o := 1) q0 rfl; clear q0); go_simp; first | exact quiet_value | exact quiet_enter (koften_any hp (own_bel HR2.out hw'.1) HLm.out))); simp only [Act.put, List.setIfInBounds_toArray, List.set_cons_zero, List.set_cons_succ]; refine hK.out _ ?_; clear hK K) | (refine wf_skip rfl rfl (fun K hK => ?_); simp only [Act.put, List.setIfInBounds_toArray, List.set_cons_zero, List.set_cons_succ]; refine hK.out _ ?_; clear hK K) | (refine wf_skipu rfl rfl (fun K hK => ?_); simp only [Act.put, List.setIfInBounds_toArray, List.set_cons_zero, List.set_cons_succ]; refine hK.out _ ?_; clear hK K))
      refine wf_step (RVb (bagB o L)) (fun _ => Triv) (RVb.stab _) (fun _ => Triv.stab) rfl rfl (fun w' hc hd => ?_) (fun K hK v2 => ?_) wf_stop
      focus
        have HC := Lib.hid hc
        clear hc hd
        go_simp
        refine st_enter ?_
        exact (CB.out _ (HT.out.below HC.out.1)).mono fun e W' ⟨A', c', h1, h2, h3⟩ => ⟨_, h1, ⟨HC.out.1.trans (h3.mono HC.out.1.size), PvO.stab L _ _ _ HC.out.2 h3⟩, ⟨A', c', rfl, h2⟩, triv _⟩
      simp only [Act.put, List.setIfInBounds_toArray, List.set_cons_zero, List.set_cons_succ]
      refine hK.out _ _ _ ?_
      clear hK K
      repeat (first | (refine wf_q rfl rfl ?_; apply Exists.intro; refine ⟨fun w' hw' => ?_, fun K hK => ?_⟩; (focus ((have qv := RVb.conv hw'.2); go_simp; first | exact quiet_value | fail)); simp only [Act.put, List.setIfInBounds_toArray, List.set_cons_zero, List.set_cons_succ]; refine hK.out _ ?_; clear hK K) | (refine wf_skip rfl rfl (fun K hK => ?_); simp only [Act.put, List.setIfInBounds_toArray, List.set_cons_zero, List.set_cons_succ]; refine hK.out _ ?_; clear hK K) | (refine wf_skipu rfl rfl (fun K hK => ?_); simp only [Act.put, List.setIfInBounds_toArray, List.set_cons_zero, List.set_cons_succ]; refine hK.out _ ?_; clear hK K))
      refine wf_step (RVb (bagB o L)) (fun _ => Triv) (RVb.stab _) (fun _ => Triv.stab) rfl rfl (fun w' hc hd => ?_) (fun K hK v3 => ?_) wf_stop
      focus
        have HC := Lib.hid hc
        clear hc hd
        go_simp
        refine st_enter ?_
        exact (CR.out _ (HT.out.below HC.out.1.1)).mono fun e W' ⟨A', c', h1, h2, h3⟩ => ⟨_, h1, ⟨⟨HC.out.1.1.trans (h3.mono HC.out.1.1.size), PvO.stab L _ _ _ HC.out.1.2 h3⟩, RVb.stab _ _ _ _ HC.out.2 h3⟩, ⟨A', c', rfl, h2⟩, triv _⟩
      simp only [Act.put, List.setIfInBounds_toArray, List.set_cons_zero, List.set_cons_succ]
      refine hK.out _ _ _ ?_
      clear hK K
      repeat (first | (refine wf_q rfl rfl ?_; apply Exists.intro; refine ⟨fun w' hw' => ?_, fun K hK => ?_⟩; (focus ((have qv := RVb.conv hw'.2; have q0 := keepB HR1.out hw'.1.1.1; have j1 := cellAt (o := 1) q0 rfl; clear q0); go_simp; first | exact quiet_value | with_reducible exact quiet_enter (CO.out _ (HT.out.below hw'.1.1.1)))); simp only [Act.put, List.setIfInBounds_toArray, List.set_cons_zero, List.set_cons_succ]; refine hK.out _ ?_; clear hK K) | (refine wf_skip rfl rfl (fun K hK => ?_); simp only [Act.put, List.setIfInBounds_toArray, List.set_cons_zero, List.set_cons_succ]; refine hK.out _ ?_; clear hK K) | (refine wf_skipu rfl rfl (fun K hK => ?_); simp only [Act.put, List.setIfInBounds_toArray, List.set_cons_zero, List.set_cons_succ]; refine hK.out _ ?_; clear hK K))
      refine wf_nil ?_
      rintro w12 ⟨⟨⟨hb, _⟩, _⟩, _⟩ _
      have HE := Lib.hid (HB.out.trans (hb.mono HB.out.size))
      clear hb
      try simp only [List.drop_succ_cons, List.drop_nil]
      go_wp2_with fail
      go_ret
      exact ⟨rfl, HE.out⟩
end Go.Proofs.Ytjcbikkihijkiaa
