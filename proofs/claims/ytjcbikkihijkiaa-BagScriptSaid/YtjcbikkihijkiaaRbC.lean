/- The reference's bag: Take. -/
import Derived.Test.YtjcbikkihijkiaaRbB
namespace Go.Proofs.Ytjcbikkihijkiaa
open Go.RowKit
theorem RfG.fresh2 {w w2 w5 : World} {G : Nat → Prop} {r o' : Nat} {L' : List (Int × Nat)} {v : Value} (hG : G r) (hrl : r < w.heap.size) (hb : w.heap.size ≤ w2.heap.size) (hr : w5.heap[r]? = some (.cells #[v, .int .i64 (o' : Int)] 48 (0, 0)))
    (hrow : w5.ownsRow w2.heap.size 34 2 v L'.length (oftF L')) (ho : Only G w w5) : RfG w G r L' o' w5 := by
  refine ⟨fun i => (G i ∨ w.heap.size ≤ i) ∧ i < w5.heap.size, ⟨⟨.inl hG, only_lt hr⟩, v, hr, own_base hrow (Nat.zero_le _), fun k hk => ?_⟩, fun i hi => hi, ho⟩
  obtain ⟨h1, h2⟩ := World.ownsRow.lt hrow k hk
  exact ⟨⟨.inr (by omega), h2⟩, by omega⟩
theorem addr_add0 (g m : Nat) : (⟨g, 0, none⟩ : Addr).add m = ⟨g, m, none⟩ := by unfold Addr.add; split <;> simp_all
section
variable {w : World} {G : Nat → Prop} {r o : Nat} {L : List (Int × Nat)}
set_option maxHeartbeats 4000000 in
set_option maxRecDepth 100000 in
theorem rtake_bad (n : Int) (hn : n ≠ 0) (h : RfB w G r L o) : Calls Try.prog 18 #[.pointer (some ⟨r, 0, none⟩), .agg #[.int .i64 n, .bool true]] w fun e w' => e = .returned (.int .i64 2) ∧ RfG w G r L o w' := by
  have HB := Lib.hid (below_alloc (Below.refl w.heap.size w) (Obj.cells #[.int .i64 (n), .bool true] 29))
  have HX := Lib.hid (newB w (Obj.cells #[.int .i64 (n), .bool true] 29))
  have H0 := Lib.hid h
  have H := Lib.hid (h.below HB.out)
  have c0 := cellAt (o := 0) HX.out rfl
  have c1 := cellAt (o := 1) HX.out rfl
  clear h
  go_enter Try.func18, Try.ntmps18
  go_wp2_with fail
  refine (rcheck_bad n hn _).mono ?_
  rintro e w1 ⟨rfl, hb1⟩
  have HB1 := Lib.hid (HB.out.trans (hb1.mono HB.out.size))
  have HX1 := Lib.hid (keepB HX.out hb1)
  have H1 := Lib.hid (H.out.below hb1)
  clear hb1 c0 c1
  have c0 := cellAt (o := 0) HX1.out rfl
  have c1 := cellAt (o := 1) HX1.out rfl
  go_wp2_with fail
  go_ret
  exact ⟨rfl, RfG.of_below H0.out HB1.out⟩
set_option maxHeartbeats 4000000 in
set_option maxRecDepth 100000 in
theorem rtake_none (n : Int) (ov : Bool) (hn : ov = false ∨ n = 0) (h : RfB w G r L o) (hok : OkL L) (hb : L.length ≤ 100000) (h0 : cntLs n ov L o = 0) : Calls Try.prog 18 #[.pointer (some ⟨r, 0, none⟩), .agg #[.int .i64 n, .bool ov]] w fun e w' => e = .returned (.int .i64 6) ∧ RfG w G r L o w' := by
  have HB := Lib.hid (below_alloc (Below.refl w.heap.size w) (Obj.cells #[.int .i64 (n), .bool ov] 29))
  have HX := Lib.hid (newB w (Obj.cells #[.int .i64 (n), .bool ov] 29))
  have H0 := Lib.hid h
  have H := Lib.hid (h.below HB.out)
  have c0 := cellAt (o := 0) HX.out rfl
  have c1 := cellAt (o := 1) HX.out rfl
  clear h
  go_enter Try.func18, Try.ntmps18
  go_wp2_with fail
  refine (rcheck_ok n ov hn _).mono ?_
  rintro e w1 ⟨rfl, hb1⟩
  have HB1 := Lib.hid (HB.out.trans (hb1.mono HB.out.size))
  have HX1 := Lib.hid (keepB HX.out hb1)
  have H1 := Lib.hid (H.out.below hb1)
  clear hb1 c0 c1
  have c0 := cellAt (o := 0) HX1.out rfl
  have c1 := cellAt (o := 1) HX1.out rfl
  have CC := Lib.hid (rcount_any (n) (ov) H1.out hok (by omega))
  obtain ⟨cn, hcn⟩ : ∃ c, cntLs (n) (ov) L o = c := ⟨_, rfl⟩
  rw [hcn] at CC
  have HCN := Lib.hid hcn
  clear hcn
  go_wp2_with fail
  refine CC.out.mono ?_
  rintro e w2 ⟨rfl, hb2⟩
  have HB2 := Lib.hid (HB1.out.trans (hb2.mono HB1.out.size))
  have HX2 := Lib.hid (keepB HX1.out hb2)
  have H2 := Lib.hid (H1.out.below hb2)
  clear hb2 c0 c1 CC
  have c0 := cellAt (o := 0) HX2.out rfl
  have c1 := cellAt (o := 1) HX2.out rfl
  obtain rfl : cn = 0 := HCN.out.symm.trans h0
  go_wp2_with fail
  go_ret
  exact ⟨rfl, RfG.of_below H0.out HB2.out⟩
set_option maxHeartbeats 4000000 in
set_option maxRecDepth 100000 in
theorem rtake_over (h : RfB w G r L o) (hok : OkL L) (hb : L.length ≤ 100000) (h0 : 0 < o) (hm : o ≤ 100000) : Calls Try.prog 18 #[.pointer (some ⟨r, 0, none⟩), .agg #[.int .i64 0, .bool true]] w fun e w' => e = .returned (.int .i64 0) ∧ RfG w G r L (o - 1) w' := by
  have hw : IntKind.i64.wrap ((o : Int) - 1) = ((o - 1 : Nat) : Int) := by rw [IntKind.wrap_i64]; omega
  have HB := Lib.hid (below_alloc (Below.refl w.heap.size w) (Obj.cells #[.int .i64 (0), .bool true] 29))
  have HX := Lib.hid (newB w (Obj.cells #[.int .i64 (0), .bool true] 29))
  have H0 := Lib.hid h
  have H := Lib.hid (h.below HB.out)
  have c0 := cellAt (o := 0) HX.out rfl
  have c1 := cellAt (o := 1) HX.out rfl
  clear h
  go_enter Try.func18, Try.ntmps18
  go_wp2_with fail
  refine (rcheck_ok 0 true (.inr rfl) _).mono ?_
  rintro e w1 ⟨rfl, hb1⟩
  have HB1 := Lib.hid (HB.out.trans (hb1.mono HB.out.size))
  have HX1 := Lib.hid (keepB HX.out hb1)
  have H1 := Lib.hid (H.out.below hb1)
  clear hb1 c0 c1
  have c0 := cellAt (o := 0) HX1.out rfl
  have c1 := cellAt (o := 1) HX1.out rfl
  have CC := Lib.hid (rcount_any (0) (true) H1.out hok (by omega))
  obtain ⟨cn, hcn⟩ : ∃ c, cntLs (0) (true) L o = c := ⟨_, rfl⟩
  rw [hcn] at CC
  have HCN := Lib.hid hcn
  clear hcn
  go_wp2_with fail
  refine CC.out.mono ?_
  rintro e w2 ⟨rfl, hb2⟩
  have HB2 := Lib.hid (HB1.out.trans (hb2.mono HB1.out.size))
  have HX2 := Lib.hid (keepB HX1.out hb2)
  have H2 := Lib.hid (H1.out.below hb2)
  clear hb2 c0 c1 CC
  have c0 := cellAt (o := 0) HX2.out rfl
  have c1 := cellAt (o := 1) HX2.out rfl
  obtain rfl : o = cn := HCN.out
  have hne : ¬ (o : Int) = 0 := by omega
  obtain ⟨A, cap, g1, g2⟩ := H2.out.open
  have q1 := cellAt (o := 1) g1 rfl
  have f1 := freeAt 1 g1
  clear g1 g2
  go_wp2_with fail
  go_ret
  exact ⟨rfl, H0.out.over HB2.out⟩
set_option maxHeartbeats 4000000 in
set_option maxRecDepth 100000 in
theorem rtake_num (n : Int) (h : RfB w G r L o) (hok : OkL L) (hi : isL n L = true) (hb : sumL L ≤ 100000) : Calls Try.prog 18 #[.pointer (some ⟨r, 0, none⟩), .agg #[.int .i64 n, .bool false]] w fun e w' => e = .returned (.int .i64 0) ∧ RfG w G r (delL n L) o w' := by
  have hk := at_lt hi
  have hn := at_eq hi hk
  have hlen := len_sumL hok.one
  have hjs := mem_sumL (List.getElem_mem hk)
  have hj1 := hok.one _ (List.getElem_mem hk)
  rw [(at_some hok.asc hi hk).2.2]
  have hcl := (at_some hok.asc hi hk).1
  obtain ⟨j, hj⟩ : ∃ j, L[atL n L].2 = j := ⟨_, rfl⟩
  rw [hj] at hjs hj1 hcl ⊢
  obtain ⟨k, hkk⟩ : ∃ k, atL n L = k := ⟨_, rfl⟩
  have HK := Lib.hid hkk
  have HI := Lib.hid hi
  have HLk : Hid (∃ hk : k < L.length, L[k].1 = n ∧ L[k].2 = j) := Lib.hid (by subst hkk; exact ⟨hk, hn, hj⟩)
  rw [hkk] at hk ⊢
  have hcl2 : cntLs n false L o = j := hcl
  have HCL := Lib.hid hcl2
  clear hkk hi hn hj hcl hcl2
  by_cases hj2 : 1 < j
  · rw [if_pos hj2]
    have hw : IntKind.i64.wrap ((j : Int) - 1) = ((j - 1 : Nat) : Int) := by rw [IntKind.wrap_i64]; omega
    have HB := Lib.hid (below_alloc (Below.refl w.heap.size w) (Obj.cells #[.int .i64 (n), .bool false] 29))
    have HX := Lib.hid (newB w (Obj.cells #[.int .i64 (n), .bool false] 29))
    have H0 := Lib.hid h
    have H := Lib.hid (h.below HB.out)
    have c0 := cellAt (o := 0) HX.out rfl
    have c1 := cellAt (o := 1) HX.out rfl
    clear h
    go_enter Try.func18, Try.ntmps18
    go_wp2_with fail
    refine (rcheck_ok n false (.inl rfl) _).mono ?_
    rintro e w1 ⟨rfl, hb1⟩
    have HB1 := Lib.hid (HB.out.trans (hb1.mono HB.out.size))
    have HX1 := Lib.hid (keepB HX.out hb1)
    have H1 := Lib.hid (H.out.below hb1)
    clear hb1 c0 c1
    have c0 := cellAt (o := 0) HX1.out rfl
    have c1 := cellAt (o := 1) HX1.out rfl
    have CC := Lib.hid (rcount_any (n) (false) H1.out hok (by omega))
    obtain ⟨cn, hcn⟩ : ∃ c, cntLs (n) (false) L o = c := ⟨_, rfl⟩
    rw [hcn] at CC
    have HCN := Lib.hid hcn
    clear hcn
    go_wp2_with fail
    refine CC.out.mono ?_
    rintro e w2 ⟨rfl, hb2⟩
    have HB2 := Lib.hid (HB1.out.trans (hb2.mono HB1.out.size))
    have HX2 := Lib.hid (keepB HX1.out hb2)
    have H2 := Lib.hid (H1.out.below hb2)
    clear hb2 c0 c1 CC
    have c0 := cellAt (o := 0) HX2.out rfl
    have c1 := cellAt (o := 1) HX2.out rfl
    obtain rfl : cn = j := HCN.out.symm.trans HCL.out
    have hne : ¬ (cn : Int) = 0 := by omega
    have CA := Lib.hid (rat_any n H2.out (by omega))
    rw [HI.out, HK.out] at CA
    go_wp2_with fail
    refine CA.out.mono ?_
    rintro e w3 ⟨rfl, hb3⟩
    have HB3 := Lib.hid (HB2.out.trans (hb3.mono HB2.out.size))
    have H3 := Lib.hid (H2.out.below hb3)
    clear hb3 c0 c1 CA
    obtain ⟨A, cap, g1, g2⟩ := H3.out.open
    obtain ⟨g, rfl⟩ := ownsRow_at g2 (by omega)
    obtain ⟨hkL, hkn, hkj⟩ := HLk.out
    have z1 : w3.cell? ⟨g, k * 2 + 1, none⟩ = some (.int .i64 (cn : Int)) := by rw [(oft_cell g2 hkL).2, hkj]
    have z2 := World.ownsRow.frozenAt g2 (k * 2 + 1)
    have hrg : ¬ r = g := by
      obtain ⟨h1, v, h2, h3, h4⟩ := H3.out
      rw [h2] at g1
      simp only [Option.some.injEq, Obj.cells.injEq, Array.mk.injEq, List.cons.injEq, and_true] at g1
      obtain rfl := g1
      exact fun e => (h4 g rfl).2 e.symm
    have hne2 : ¬ ((cn - 1 : Nat) : Int) = 0 := by omega
    have HSt := Lib.hid (Only.set w3 g (k * 2 + 1) (.int .i64 ((cn - 1 : Nat) : Int)))
    have q1 := cellAt (o := 0) (HSt.out.get g1 hrg) rfl
    obtain ⟨N, hN⟩ : ∃ N, L.length = N := ⟨_, rfl⟩
    rw [hN] at g1 q1 hk
    have HG1 := Lib.hid g1
    have q0 := cellAt (o := 0) g1 rfl
    clear g1 g2 hN hkL hkn hkj
    go_wp2_with fail
    go_ret
    obtain ⟨hkL, hkn, hkj⟩ := HLk.out
    exact ⟨rfl, RfG.inplace H0.out HB3.out HG1.out hkL hkn⟩
  · rw [if_neg hj2]
    obtain rfl : j = 1 := by omega
    have HB := Lib.hid (below_alloc (Below.refl w.heap.size w) (Obj.cells #[.int .i64 (n), .bool false] 29))
    have HX := Lib.hid (newB w (Obj.cells #[.int .i64 (n), .bool false] 29))
    have H0 := Lib.hid h
    have H := Lib.hid (h.below HB.out)
    have c0 := cellAt (o := 0) HX.out rfl
    have c1 := cellAt (o := 1) HX.out rfl
    clear h
    go_enter Try.func18, Try.ntmps18
    go_wp2_with fail
    refine (rcheck_ok n false (.inl rfl) _).mono ?_
    rintro e w1 ⟨rfl, hb1⟩
    have HB1 := Lib.hid (HB.out.trans (hb1.mono HB.out.size))
    have HX1 := Lib.hid (keepB HX.out hb1)
    have H1 := Lib.hid (H.out.below hb1)
    clear hb1 c0 c1
    have c0 := cellAt (o := 0) HX1.out rfl
    have c1 := cellAt (o := 1) HX1.out rfl
    have CC := Lib.hid (rcount_any (n) (false) H1.out hok (by omega))
    obtain ⟨cn, hcn⟩ : ∃ c, cntLs (n) (false) L o = c := ⟨_, rfl⟩
    rw [hcn] at CC
    have HCN := Lib.hid hcn
    clear hcn
    go_wp2_with fail
    refine CC.out.mono ?_
    rintro e w2 ⟨rfl, hb2⟩
    have HB2 := Lib.hid (HB1.out.trans (hb2.mono HB1.out.size))
    have HX2 := Lib.hid (keepB HX1.out hb2)
    have H2 := Lib.hid (H1.out.below hb2)
    clear hb2 c0 c1 CC
    have c0 := cellAt (o := 0) HX2.out rfl
    have c1 := cellAt (o := 1) HX2.out rfl
    obtain rfl : cn = 1 := HCN.out.symm.trans HCL.out
    have CA := Lib.hid (rat_any n H2.out (by omega))
    rw [HI.out, HK.out] at CA
    go_wp2_with fail
    refine CA.out.mono ?_
    rintro e w3 ⟨rfl, hb3⟩
    have HB3 := Lib.hid (HB2.out.trans (hb3.mono HB2.out.size))
    have H3 := Lib.hid (H2.out.below hb3)
    clear hb3 c0 c1 CA
    obtain ⟨A, cap, g1, g2⟩ := H3.out.open
    obtain ⟨g, rfl⟩ := ownsRow_at g2 (by omega)
    obtain ⟨hkL, hkn, hkj⟩ := HLk.out
    have z1 : w3.cell? ⟨g, k * 2 + 1, none⟩ = some (.int .i64 1) := by rw [(oft_cell g2 hkL).2, hkj]; rfl
    have z2 := World.ownsRow.frozenAt g2 (k * 2 + 1)
    have hrg : ¬ r = g := by
      obtain ⟨h1, v, h2, h3, h4⟩ := H3.out
      rw [h2] at g1
      simp only [Option.some.injEq, Obj.cells.injEq, Array.mk.injEq, List.cons.injEq, and_true] at g1
      obtain rfl := g1
      exact fun e => (h4 g rfl).2 e.symm
    have hGg : G g ∧ G r ∧ r < w.heap.size := by
      obtain ⟨h1, v, h2, h3, h4⟩ := H3.out
      rw [h2] at g1
      simp only [Option.some.injEq, Obj.cells.injEq, Array.mk.injEq, List.cons.injEq, and_true] at g1
      obtain rfl := g1
      obtain ⟨_, v', h2', _⟩ := H0.out
      exact ⟨(h4 g rfl).1, h1, only_lt h2'⟩
    have HGg := Lib.hid hGg
    have HSt := Lib.hid (Only.set w3 g (k * 2 + 1) (.int .i64 0))
    have hst := (World.ownsRow.stored g2 (k * 2 + 1) (.int .i64 (0 : Nat))).1
    rw [oftF_set L k n 0 hkL hkn] at hst
    have hcap := (ownsRow_cap g2).2
    have g4 := HSt.out.get g1 hrg
    obtain ⟨N, hN⟩ : ∃ N, L.length = N := ⟨_, rfl⟩
    have HNN := Lib.hid hN
    have hNb : N ≤ 100000 := by omega
    rw [hN] at g1 g4 hk hcap
    have HG1 := Lib.hid g1
    have HG4 := Lib.hid g4
    have HR4 := Lib.hid hst
    have q0 := cellAt (o := 0) g1 rfl
    have q1 := cellAt (o := 0) g4 rfl
    have hkc : k ≤ cap := by omega
    have hkc1 : k + 1 ≤ cap := by omega
    have hkN : k + 1 ≤ N := by omega
    have hkN2 : (k : Int) + 1 ≤ (N : Int) := by omega
    have hkc2 : (k : Int) + 1 ≤ (cap : Int) := by omega
    have hkT : ((k : Int) + 1).toNat = k + 1 := by omega
    have hwk : IntKind.i64.wrap ((k : Int) + 1) = (k : Int) + 1 := by rw [IntKind.wrap_i64]; omega
    clear g1 g2 g4 hst hkL hkn hkj hN hGg
    go_wp2_with fail
    obtain ⟨w4, hw4⟩ : ∃ W, w3.setCell ⟨g, k * 2 + 1, none⟩ (.int .i64 0) = W := ⟨_, rfl⟩
    have hw4' : w3.setCell ⟨g, k * 2 + 1, none⟩ (.int .i64 ((0 : Nat) : Int)) = w4 := hw4
    rw [hw4] at HSt HG4 q1 ⊢
    rw [hw4'] at HR4
    have HFm : Hid (∀ W, Below w4.heap.size w4 W → W.cell? ⟨r, 0, none⟩ = some (.slice (some ⟨g, 0, none⟩) N cap)) := Lib.hid (fun W hb => cellAt (o := 0) (keepB HG4.out hb) rfl)
    clear hw4 hw4' q0 q1 z1 z2
    refine wp_region_fork 17 (.q 0 (.q 2 (.q 3 (.q 4 (.q 5 (.q 6 (.q 7 (.q 9 (.q 10 (.q 11 (.q 12 (.q 13 (.q 14 (.q 15 (.alt 1 (.alt 8 (.alt 16 .nil .stop) .stop) .stop))))))))))))))) (Below w4.heap.size w4) Triv (by kernel_rfl) (by kernel_rfl) (Stab.below _ _ (Nat.le_refl _)) Triv.stab ((Below.refl _ _).drew) (triv _) ?_
    repeat (first | (refine wf_q rfl rfl ?_; apply Exists.intro; refine ⟨fun w' hw' => ?_, fun K hK => ?_⟩; (focus ((have q1 := HFm.out _ hw'); go_simp; first | exact quiet_value | fail)); simp only [Act.put, List.setIfInBounds_toArray, List.set_cons_zero, List.set_cons_succ]; refine hK.out _ ?_; clear hK K) | (refine wf_skip rfl rfl (fun K hK => ?_); simp only [Act.put, List.setIfInBounds_toArray, List.set_cons_zero, List.set_cons_succ]; refine hK.out _ ?_; clear hK K) | (refine wf_skipu rfl rfl (fun K hK => ?_); simp only [Act.put, List.setIfInBounds_toArray, List.set_cons_zero, List.set_cons_succ]; refine hK.out _ ?_; clear hK K))
    have HT : Hid (∀ W, Below w4.heap.size w4 W → ∃ B', Reads W B' 2 (some ⟨g, 0, none⟩) k (oftF (L.take k))) := Lib.hid (fun W hb => ⟨_, by
      have h8 := (Reads.of_own (own_bel HR4.out hb)).take_ (k := k) (by rw [HNN.out]; omega)
      rw [oftF_take, List.take_set_of_le (Nat.le_refl _)] at h8; exact h8⟩)
    have HD : Hid (∀ W, Below w4.heap.size w4 W → ∃ B', Reads W B' 2 (if cap = k + 1 then (some (⟨g, 0, none⟩ : Addr)) else some ⟨g, (k + 1) * 2, none⟩) (N - (k + 1)) (oftF (L.drop (k + 1)))) := Lib.hid (fun W hb => ⟨_, by
      have h8 := (Reads.of_own (own_bel HR4.out hb)).cut (k := k + 1) (cap := cap) (by rw [HNN.out]; exact hkN) (by rw [HNN.out]; exact hcap)
      rw [oftF_drop, List.drop_set_of_lt (by omega), HNN.out, Option.map_some, addr_add0] at h8; exact h8⟩)
    obtain ⟨AX, hAX⟩ : ∃ AX, (if cap = k + 1 then (some (⟨g, 0, none⟩ : Addr)) else some ⟨g, (k + 1) * 2, none⟩) = AX := ⟨_, rfl⟩
    rw [hAX] at HD ⊢
    clear hAX
    have hkl1 : (L.take k).length = k := by rw [List.length_take, HNN.out]; omega
    have hdl1 : (L.drop (k + 1)).length = N - (k + 1) := by rw [List.length_drop, HNN.out]
    have HKL := Lib.hid hkl1
    have HDL := Lib.hid hdl1
    clear hkl1 hdl1
    refine wf_step (fun _ => Triv) (fun v W => DE w4.heap.size v W ∧ Triv W) (fun _ _ _ _ _ => triv _) (fun v => Stab.and (DE.stab _ v) Triv.stab) rfl rfl (fun w' hc hd => ?_) (fun K hK v1 => ?_) wf_stop
    focus
      have HC : Hid (Below w4.heap.size w4 w') := Lib.hid (by first | exact hc | exact hc.1 | exact hc.1.1 | exact hc.1.1.1 | exact hc.1.1.1.1 | exact hc.1.1.1.1.1)
      clear hc hd
      go_simp
      have hb : Below w4.heap.size w4 _ := HC.out.trans ((below_alloc (Below.refl w'.heap.size w') (.cells #[] 34)).mono HC.out.size)
      exact ⟨by first | exact hb | exact ⟨hb, triv _⟩ | exact ⟨⟨hb, triv _⟩, triv _⟩ | exact ⟨⟨⟨hb, triv _⟩, triv _⟩, triv _⟩ | exact ⟨⟨⟨⟨hb, triv _⟩, triv _⟩, triv _⟩, triv _⟩, triv _, ⟨_, rfl, HC.out.size, newB _ _⟩, triv _⟩
    simp only [Act.put, List.setIfInBounds_toArray, List.set_cons_zero, List.set_cons_succ]
    refine hK.out _ _ _ ?_
    clear hK K
    refine wf_step (fun _ => Triv) (fun v W => RowN w4.heap.size v (L.take k) W ∧ Triv W) (fun _ _ _ _ _ => triv _) (fun v => Stab.and (RowN.stab _ _ v) Triv.stab) rfl rfl (fun w' hc hd => ?_) (fun K hK v8 => ?_) wf_stop
    focus
      have hcb : Below w4.heap.size w4 w' := (by first | exact hc | exact hc.1 | exact hc.1.1 | exact hc.1.1.1 | exact hc.1.1.1.1 | exact hc.1.1.1.1.1)
      exact ap_empty (.tmp 54) (.tmp 60) rfl rfl rfl HKL.out.symm hd.1 hd.2 KeepE.triv hcb hcb.size (HT.out _ hcb) (by rw [HKL.out]; omega) (fun W' hb => by first | exact hb | exact ⟨hb, triv _⟩ | exact ⟨⟨hb, triv _⟩, triv _⟩ | exact ⟨⟨⟨hb, triv _⟩, triv _⟩, triv _⟩ | exact ⟨⟨⟨⟨hb, triv _⟩, triv _⟩, triv _⟩, triv _⟩)
    simp only [Act.put, List.setIfInBounds_toArray, List.set_cons_zero, List.set_cons_succ]
    refine hK.out _ _ _ ?_
    clear hK K
    refine wf_step (fun _ => Triv) (fun v W => RowN w4.heap.size v (L.take k ++ L.drop (k + 1)) W) (fun _ _ _ _ _ => triv _) (fun v => RowN.stab _ _ v) rfl rfl (fun w' hc hd => ?_) (fun K hK v16 => ?_) wf_stop
    focus
      have hcb : Below w4.heap.size w4 w' := (by first | exact hc | exact hc.1 | exact hc.1.1 | exact hc.1.1.1 | exact hc.1.1.1.1 | exact hc.1.1.1.1.1)
      exact ap_own (M := L.drop (k + 1)) (.tmp 61) (.tmp 68) rfl rfl rfl HDL.out.symm hd.1 hcb hcb.size (HD.out _ hcb) (by rw [HKL.out, HDL.out]; omega) (fun W' hb _ => by first | exact hb | exact ⟨hb, triv _⟩ | exact ⟨⟨hb, triv _⟩, triv _⟩ | exact ⟨⟨⟨hb, triv _⟩, triv _⟩, triv _⟩ | exact ⟨⟨⟨⟨hb, triv _⟩, triv _⟩, triv _⟩, triv _⟩)
    simp only [Act.put, List.setIfInBounds_toArray, List.set_cons_zero, List.set_cons_succ]
    refine hK.out _ _ _ ?_
    clear hK K
    refine wf_nil ?_
    rintro w5 hc hd
    have HB5 : Hid (Below w4.heap.size w4 w5) := Lib.hid (by first | exact hc | exact hc.1 | exact hc.1.1 | exact hc.1.1.1 | exact hc.1.1.1.1 | exact hc.1.1.1.1.1)
    have hl3 : (L.take k ++ L.drop (k + 1)).length = N - 1 := by rw [List.length_append, HKL.out, HDL.out]; omega
    obtain ⟨A5, c5, rfl⟩ := ownsRow_form (show w5.ownsRow w4.heap.size 34 2 v16 _ _ from hd)
    have HD5 := Lib.hid (show w5.ownsRow w4.heap.size 34 2 _ _ _ from hd)
    have g9 := keepB HG4.out HB5.out
    have q0 := cellAt (o := 0) g9 rfl
    have f0 := freeAt 0 g9
    have HO6 := Lib.hid (Only.set w5 r 0 (.slice A5 (L.take k ++ L.drop (k + 1)).length c5))
    have HG6 : Hid ((w5.setCell ⟨r, 0, none⟩ (.slice A5 (L.take k ++ L.drop (k + 1)).length c5)).heap[r]? = some (.cells #[.slice A5 (L.take k ++ L.drop (k + 1)).length c5, .int .i64 (o : Int)] 48 (0, 0))) := Lib.hid (by rw [setCell_get g9]; rfl)
    have hr4 := only_lt HG4.out
    have HR6 := Lib.hid (own_keep HD5.out (fun g' hg => HO6.out.block g' (World.ownsRow.lt HD5.out g' hg).2 (fun e => by have := (World.ownsRow.lt HD5.out g' hg).1; omega)))
    rw [hl3] at HG6 HO6 ⊢
    clear hc hd g9
    try simp only [List.drop_succ_cons, List.drop_zero]
    go_wp2_with fail
    go_ret
    refine ⟨rfl, RfG.fresh2 (w2 := w4) HGg.out.2.1 HGg.out.2.2 (Nat.le_trans HB3.out.size HSt.out.size) (by rw [← hl3]; rw [hl3]; exact HG6.out) ?_ ?_⟩
    · have h8 := HR6.out
      rw [hl3] at h8 ⊢
      exact h8
    · exact (((Only.of_below HB3.out).then HSt.out (fun i _ e => e ▸ HGg.out.1)).then (Only.of_below (S := fun _ => False) HB5.out) (fun _ _ h => h.elim)).then HO6.out (fun i _ e => e ▸ HGg.out.2.1)
theorem rtake_any (n : Int) (ov : Bool) (h : RfB w G r L o) (hok : OkL L) (hb : o + sumL L ≤ 100000) :
    Calls Try.prog 18 #[.pointer (some ⟨r, 0, none⟩), .agg #[.int .i64 n, .bool ov]] w fun e w' => e = .returned (.int .i64 (takeLs n ov L o).1) ∧ RfG w G r (takeLs n ov L o).2.1 (takeLs n ov L o).2.2 w' := by
  have hlen := len_sumL hok.one
  have hl5 : L.length ≤ 100000 := by omega
  unfold takeLs
  by_cases hc : chk n ov = 0
  · rw [if_pos hc]
    have hn : ov = false ∨ n = 0 := by unfold chk at hc; cases ov <;> simp_all
    by_cases hz : cntLs n ov L o = 0
    · rw [if_pos hz]; exact rtake_none n ov hn h hok hl5 hz
    · rw [if_neg hz]
      unfold cntLs at hz
      rw [if_pos hc] at hz
      cases ov
      · rw [if_neg (by simp)] at hz ⊢
        cases hi : isL n L with
        | false => exact absurd (at_none hok.asc hi).1 hz
        | true => exact rtake_num n h hok hi (by omega)
      · rw [if_pos rfl] at hz ⊢
        obtain rfl : n = 0 := hn.elim (fun e => by cases e) id
        exact rtake_over h hok hl5 (by omega) (by omega)
  · rw [if_neg hc]
    have hn : ov = true ∧ n ≠ 0 := by unfold chk at hc; split at hc <;> simp_all
    obtain ⟨rfl, hn⟩ := hn
    exact rtake_bad n hn h
end
end Go.Proofs.Ytjcbikkihijkiaa
