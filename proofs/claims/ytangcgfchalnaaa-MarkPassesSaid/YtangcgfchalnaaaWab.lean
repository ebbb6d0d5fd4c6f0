/- Parts of the proof: RlS MkY MpR MpS. -/
import Derived.Test.YtangcgfchalnaaaWaa
import Derived.Test.YtangcgfchalnaaaYaw
import Derived.Test.YtangcgfchalnaaaYay
import Derived.Test.YtangcgfchalnaaaYao
/- The reference's series and samples: whether they may be; the kit's labels, series, samples: whether they are the same. -/
namespace Go.Proofs.Ytangcgfchalnaaa
open Go.RowKit
section
variable {m : ByteArray} {A : Option Addr} {c n : Nat} {L : List Lb} {t k : Int} {w : World}
set_option maxRecDepth 100000 in
theorem rser_any (hn : L.length = n) (h : RdLb w A L) (hS : smallS m L) : Calls Try.prog 33 #[.agg #[.string m, .slice A n c]] w fun e w' => e = .returned (.int .i64 (serE m L)) ∧ Below w.heap.size w w' := by
  have HB := Lib.hid (below_alloc (Below.refl w.heap.size w) (.cells #[.string m, .slice A n c] 32))
  have HX := newB w (.cells #[.string m, .slice A n c] 32)
  have CL := Lib.hid (rcheck_any (c := c) hn (h.below HB.out) hS.2)
  have d0 := cellAt (o := 0) HX rfl
  have d1 := cellAt (o := 1) HX rfl
  have CN := Lib.hid (fun W => rname_any hS.1 W)
  unfold serE
  obtain ⟨b, hb⟩ : ∃ b, nameB m = b := ⟨_, rfl⟩
  rw [hb] at CN ⊢
  obtain ⟨x, hx⟩ : ∃ x, labE L = x := ⟨_, rfl⟩
  rw [hx] at CL ⊢
  clear hn h HX hb hx hS
  cases b
  · go_enter Try.func33, Try.ntmps33
    go_wp2_with fail
    refine (CN.out _).mono ?_
    rintro e w1 ⟨rfl, rfl⟩
    go_wp2_with fail
    go_ret
    exact ⟨rfl, HB.out⟩
  · go_enter Try.func33, Try.ntmps33
    go_wp2_with fail
    refine (CN.out _).mono ?_
    rintro e w1 ⟨rfl, rfl⟩
    go_wp2_with fail
    refine CL.out.mono ?_
    rintro e w1 ⟨rfl, hb1⟩
    have HB1 := Lib.hid (HB.out.trans (hb1.mono HB.out.size))
    clear hb1
    go_wp2_with fail
    go_ret
    exact ⟨rfl, HB1.out⟩
set_option maxRecDepth 100000 in
theorem rsmp_any (hn : L.length = n) (h : RdLb w A L) (hS : smallS m L) : Calls Try.prog 13 #[.agg #[.string m, .slice A n c, .int .i64 t, .int .i64 k]] w fun e w' => e = .returned (.int .i64 (smpE m L t)) ∧ Below w.heap.size w w' := by
  have HB := Lib.hid (below_alloc (Below.refl w.heap.size w) (.cells #[.string m, .slice A n c, .int .i64 t, .int .i64 k] 34))
  have HX := Lib.hid (newB w (.cells #[.string m, .slice A n c, .int .i64 t, .int .i64 k] 34))
  have CL := Lib.hid (rser_any (m := m) (c := c) hn (h.below HB.out) hS)
  have d0 := cellAt (o := 0) HX.out rfl
  have d1 := cellAt (o := 1) HX.out rfl
  have d2 := cellAt (o := 2) HX.out rfl
  unfold smpE
  obtain ⟨x, hx⟩ : ∃ x, serE m L = x := ⟨_, rfl⟩
  rw [hx] at CL ⊢
  obtain ⟨y, hy⟩ : ∃ y : Int, (if x = 0 then (if t < 1 ∨ 1099511627776 < t then 2 else 0) else x) = y := ⟨_, rfl⟩
  rw [hy]
  have HY := Lib.hid hy
  clear hn h hx hy hS
  go_enter Try.func13, Try.ntmps13
  go_wp2_with fail
  refine CL.out.mono ?_
  rintro e w1 ⟨rfl, hb1⟩
  have HB1 := Lib.hid (HB.out.trans (hb1.mono HB.out.size))
  have HX1 := Lib.hid (keepB HX.out hb1)
  clear hb1 d0 d1 d2
  have d2 := cellAt (o := 1 + 1) HX1.out rfl
  by_cases h0 : x = 0
  · subst h0
    have hy := HY.out
    rw [if_pos rfl] at hy
    by_cases h1 : t < 1
    · obtain rfl : 2 = y := by rw [← hy, if_pos (.inl h1)]
      clear hy HY
      go_wp2_with fail
      go_ret
      exact ⟨rfl, HB1.out⟩
    · by_cases h2 : 1099511627776 < t
      · obtain rfl : 2 = y := by rw [← hy, if_pos (.inr h2)]
        clear hy HY
        go_wp2_with fail
        go_ret
        exact ⟨rfl, HB1.out⟩
      · obtain rfl : 0 = y := by rw [← hy, if_neg (by omega)]
        clear hy HY
        go_wp2_with fail
        go_ret
        exact ⟨rfl, HB1.out⟩
  · have hy := HY.out
    rw [if_neg h0] at hy
    subst hy
    clear HY
    go_wp2_with fail
    go_ret
    exact ⟨rfl, HB1.out⟩
end
section
variable {m : ByteArray} {A C : Option Addr} {c d n : Nat} {L : List Lb} {t k : Int} {w : World}
set_option maxHeartbeats 4000000 in
set_option maxRecDepth 100000 in
theorem klab_any (hn : L.length = n) (h1 : RdLb w A L) (h2 : RdLb w C L) (hl : n ≤ 1000000) : Calls Try.prog 87 #[.slice A n c, .slice C n d] w fun e w' => e = .returned (.bool true) ∧ Below w.heap.size w w' := by
  have HN := Lib.hid hn
  have H1 := Lib.hid h1
  have H2 := Lib.hid h2
  clear h1 h2 hn
  go_enter Try.func87, Try.ntmps87
  go_wp2_with fail
  go_loopw [5] (fun v5 wr => ∃ k : Nat, v5 = .int .i64 (k : Int) ∧ k ≤ n ∧ Hid (Below w.heap.size w wr)) (fun v5 _ => n - (intOf v5).toNat)
  case atStart => exact ⟨0, rfl, Nat.zero_le _, Lib.hid (Below.refl _ _)⟩
  case round =>
    obtain ⟨k, rfl, hk, HB⟩ := hrel
    by_cases h0 : k < n
    · have hkL : k < L.length := by rw [HN.out]; exact h0
      obtain ⟨ad, hA, _⟩ := (H1.out.below HB.out).at_ hkL
      obtain ⟨bd, hC, _⟩ := (H2.out.below HB.out).at_ hkL
      subst hA hC
      obtain ⟨⟨nm, tx⟩, hx⟩ : ∃ x, L[k] = x := ⟨_, rfl⟩
      have HC1 : Hid (∀ W, Below wr.heap.size wr W → (W.cell? (ad.add (k * 2)) = some (.string nm) ∧ W.cell? { block := (ad.add (k * 2)).block, off := (ad.add (k * 2)).off + 1 } = some (.string tx)) ∧ W.cell? (bd.add (k * 2)) = some (.string nm) ∧ W.cell? { block := (bd.add (k * 2)).block, off := (bd.add (k * 2)).off + 1 } = some (.string tx)) := Lib.hid (fun W hb => by
        have g1 := ((H1.out.below HB.out).below hb).some_ hkL
        have g2 := ((H2.out.below HB.out).below hb).some_ hkL
        rw [hx] at g1 g2
        exact ⟨g1, g2⟩)
      have hkI : (k : Int) < (n : Int) := by omega
      have hw : IntKind.i64.wrap ((k : Int) + 1) = ((k + 1 : Nat) : Int) := by rw [IntKind.wrap_i64]; omega
      clear hx
      go_wp2_with fail
      refine wp_region_here 9 [(0, false), (1, false), (2, false), (3, false), (4, false), (5, false), (6, false), (7, false), (8, false)] (fun _ => .cells #[] 0) (by kernel_rfl) (by kernel_rfl) ?_
      repeat (first | (refine wpP_q rfl rfl rfl ?_; apply Exists.intro; refine ⟨fun w' hw' => ?_, fun K hK => ?_⟩; (focus ((obtain ⟨⟨y0, y1⟩, z0, z1⟩ := HC1.out _ hw'); go_simp; first | exact quiet_value | fail)); simp only [Act.put, List.setIfInBounds_toArray, List.set_cons_zero, List.set_cons_succ]; refine hK.out _ ?_; clear hK K) | (refine wpP_skip rfl rfl rfl (fun K hK => ?_); simp only [Act.put, List.setIfInBounds_toArray, List.set_cons_zero, List.set_cons_succ]; refine hK.out _ ?_; clear hK K))
      refine wpP_nil ?_
      intro w2 hb2
      have HB2 := Lib.hid (HB.out.trans (hb2.mono HB.out.size))
      clear hb2
      (try simp only [List.drop_succ_cons]); (try simp only [List.drop_zero]); (try simp only [List.drop_nil])
      go_wp2_with fail
      go_roundw
      case rel => exact ⟨k + 1, rfl, by omega, HB2⟩
      case measure => simp [intOf]; omega
    · obtain rfl : k = n := by omega
      have hkI : ¬ (k : Int) < (k : Int) := by omega
      go_wp2_with fail
      go_ret
      exact ⟨rfl, HB.out⟩
set_option maxHeartbeats 4000000 in
set_option maxRecDepth 100000 in
theorem kser_any (hn : L.length = n) (h1 : RdLb w A L) (h2 : RdLb w C L) (hl : n ≤ 1000000) : Calls Try.prog 68 #[.agg #[.string m, .slice A n c], .agg #[.string m, .slice C n d]] w fun e w' => e = .returned (.bool true) ∧ Below w.heap.size w w' := by
  have HX := Lib.hid (keepA (newB w (.cells #[.string m, .slice A n c] 32)) (.cells #[.string m, .slice C n d] 32))
  have HY := Lib.hid (newB (w.alloc (.cells #[.string m, .slice A n c] 32)) (.cells #[.string m, .slice C n d] 32))
  rw [alloc_size] at HY
  have HB := Lib.hid (below_alloc (below_alloc (Below.refl w.heap.size w) (.cells #[.string m, .slice A n c] 32)) (.cells #[.string m, .slice C n d] 32))
  have CL := Lib.hid (klab_any (c := c) (d := d) hn (h1.below HB.out) (h2.below HB.out) hl)
  have d0 := cellAt (o := 0) HX.out rfl
  have d1 := cellAt (o := 1) HX.out rfl
  have e0 := cellAt (o := 0) HY.out rfl
  have e1 := cellAt (o := 1) HY.out rfl
  clear hn h1 h2
  go_enter Try.func68, Try.ntmps68
  go_wp2_with fail
  refine CL.out.mono ?_
  rintro e w1 ⟨rfl, hb1⟩
  have HB1 := Lib.hid (HB.out.trans (hb1.mono HB.out.size))
  clear hb1
  go_wp2_with fail
  go_ret
  exact ⟨rfl, HB1.out⟩
set_option maxHeartbeats 4000000 in
set_option maxRecDepth 100000 in
theorem ksmp_any (hn : L.length = n) (h1 : RdLb w A L) (h2 : RdLb w C L) (hl : n ≤ 1000000) : Calls Try.prog 36 #[.agg #[.string m, .slice A n c, .int .i64 t, .int .i64 k], .agg #[.string m, .slice C n d, .int .i64 t, .int .i64 k]] w fun e w' => e = .returned (.bool true) ∧ Below w.heap.size w w' := by
  have HX := Lib.hid (keepA (newB w (.cells #[.string m, .slice A n c, .int .i64 t, .int .i64 k] 34)) (.cells #[.string m, .slice C n d, .int .i64 t, .int .i64 k] 34))
  have HY := Lib.hid (newB (w.alloc (.cells #[.string m, .slice A n c, .int .i64 t, .int .i64 k] 34)) (.cells #[.string m, .slice C n d, .int .i64 t, .int .i64 k] 34))
  rw [alloc_size] at HY
  have HB := Lib.hid (below_alloc (below_alloc (Below.refl w.heap.size w) (.cells #[.string m, .slice A n c, .int .i64 t, .int .i64 k] 34)) (.cells #[.string m, .slice C n d, .int .i64 t, .int .i64 k] 34))
  have CL := Lib.hid (kser_any (m := m) (c := c) (d := d) hn (h1.below HB.out) (h2.below HB.out) hl)
  have d0 := cellAt (o := 0) HX.out rfl
  have d1 := cellAt (o := 1) HX.out rfl
  have e0 := cellAt (o := 0) HY.out rfl
  have e1 := cellAt (o := 1) HY.out rfl
  clear hn h1 h2
  go_enter Try.func36, Try.ntmps36
  go_wp2_with fail
  refine CL.out.mono ?_
  rintro e w1 ⟨rfl, hb1⟩
  have HB1 := Lib.hid (HB.out.trans (hb1.mono HB.out.size))
  have HX1 := Lib.hid (keepB HX.out hb1)
  have HY1 := Lib.hid (keepB HY.out hb1)
  clear hb1 d0 d1 e0 e1
  have d2 := cellAt (o := 2) HX1.out rfl
  have d3 := cellAt (o := 3) HX1.out rfl
  have e2 := cellAt (o := 2) HY1.out rfl
  have e3 := cellAt (o := 3) HY1.out rfl
  go_wp2_with fail
  go_ret
  exact ⟨rfl, HB1.out⟩
/-- Samples that were made, as samples that are read. -/
theorem OutM.rd {w : World} {B : Nat} {v : Value} {X : List Sm} (h : OutM w B v X) : ∃ A c, v = .slice A X.length c ∧ RdSm w A X.length X := by
  obtain ⟨A, c, rfl⟩ := or_form h.row
  refine ⟨A, c, rfl, rfl, Reads.of_own h.row, fun x hx => ?_⟩
  obtain ⟨A', c', e, _, _, hr, _⟩ := (h.lab x hx).form
  have e1 : x.2.1.1 = A' := by injection e
  show Reads w w.heap.size 2 x.2.1.1 _ _
  rw [e1]
  exact hr
set_option maxHeartbeats 4000000 in
set_option maxRecDepth 100000 in
theorem samp_any {X Y : List Sm} (h1 : RdSm w A n X) (h2 : RdSm w C n Y) (he : X.map smC = Y.map smC) (hl : n ≤ 1000000) (hL : ∀ x ∈ X, x.2.1.2.2.length ≤ 1000000) : Calls Try.prog 17 #[.slice A n c, .slice C n d] w fun e w' => e = .returned (.bool true) ∧ Below w.heap.size w w' := by
  have H1 := Lib.hid h1
  have H2 := Lib.hid h2
  have HE := Lib.hid he
  have HL := Lib.hid hL
  clear h1 h2 he hL
  go_enter Try.func17, Try.ntmps17
  go_wp2_with fail
  go_loopw [5] (fun v5 wr => ∃ k : Nat, v5 = .int .i64 (k : Int) ∧ k ≤ n ∧ Hid (Below w.heap.size w wr)) (fun v5 _ => n - (intOf v5).toNat)
  case atStart => exact ⟨0, rfl, Nat.zero_le _, Lib.hid (Below.refl _ _)⟩
  case round =>
    obtain ⟨k, rfl, hk, HB⟩ := hrel
    by_cases h0 : k < n
    · have hkX : k < X.length := by rw [H1.out.1]; exact h0
      have hkY : k < Y.length := by rw [H2.out.1]; exact h0
      obtain ⟨ad, hA, _⟩ := H1.out.some_ (by omega)
      obtain ⟨bd, hC, _⟩ := H2.out.some_ (by omega)
      subst hA hC
      have hxy : smC X[k] = smC Y[k] := by
        have h1 : (X.map smC)[k]'(by simpa using hkX) = smC X[k] := List.getElem_map ..
        have h2 : (Y.map smC)[k]'(by simpa using hkY) = smC Y[k] := List.getElem_map ..
        rw [← h1, ← h2]
        simp only [HE.out]
      have hLx := HL.out _ (List.getElem_mem hkX)
      obtain ⟨⟨m, ⟨Al, cl, Ls⟩, tm, x⟩, hx⟩ : ∃ x, X[k] = x := ⟨_, rfl⟩
      obtain ⟨⟨m2, ⟨Al2, cl2, Ls2⟩, tm2, x2⟩, hy⟩ : ∃ x, Y[k] = x := ⟨_, rfl⟩
      rw [hx, hy] at hxy
      simp only [smC, Prod.mk.injEq] at hxy
      obtain ⟨⟨rfl, rfl⟩, rfl, rfl⟩ := hxy
      rw [hx] at hLx
      obtain ⟨nl, hnl⟩ : ∃ nl, Ls.length = nl := ⟨_, rfl⟩
      have HR : Hid (∀ W, Below wr.heap.size wr W → RdLb W Al Ls ∧ RdLb W Al2 Ls) := Lib.hid (fun W hb => by
        have g1 := ((H1.out.below HB.out).below hb).2.2 _ (List.getElem_mem hkX)
        have g2 := ((H2.out.below HB.out).below hb).2.2 _ (List.getElem_mem hkY)
        rw [hx] at g1
        rw [hy] at g2
        exact ⟨g1, g2⟩)
      have HC1 : Hid (∀ W, Below wr.heap.size wr W → (W.cell? (ad.add (k * 4)) = some (.string m) ∧ W.cell? { block := (ad.add (k * 4)).block, off := (ad.add (k * 4)).off + 1 } = some (.slice Al nl cl) ∧ W.cell? { block := (ad.add (k * 4)).block, off := (ad.add (k * 4)).off + 2 } = some (.int .i64 tm) ∧ W.cell? { block := (ad.add (k * 4)).block, off := (ad.add (k * 4)).off + 3 } = some (.int .i64 x)) ∧
          W.cell? (bd.add (k * 4)) = some (.string m) ∧ W.cell? { block := (bd.add (k * 4)).block, off := (bd.add (k * 4)).off + 1 } = some (.slice Al2 nl cl2) ∧ W.cell? { block := (bd.add (k * 4)).block, off := (bd.add (k * 4)).off + 2 } = some (.int .i64 tm) ∧ W.cell? { block := (bd.add (k * 4)).block, off := (bd.add (k * 4)).off + 3 } = some (.int .i64 x)) := Lib.hid (fun W hb => by
        have g1 := ((H1.out.below HB.out).below hb).at_ hkX
        have g2 := ((H2.out.below HB.out).below hb).at_ hkY
        rw [hx] at g1
        rw [hy] at g2
        simp only [lsV, hnl] at g1 g2
        exact ⟨g1, g2⟩)
      have hnl1 : nl ≤ 1000000 := by rw [← hnl]; exact hLx
      have CK := Lib.hid (fun W (hb : Below wr.heap.size wr W) => ksmp_any (m := m) (c := cl) (d := cl2) (t := tm) (k := x) hnl (HR.out W hb).1 (HR.out W hb).2 hnl1)
      have hkI : (k : Int) < (n : Int) := by omega
      have hw : IntKind.i64.wrap ((k : Int) + 1) = ((k + 1 : Nat) : Int) := by rw [IntKind.wrap_i64]; omega
      clear hx hy hLx hnl hkX hkY
      go_wp2_with fail
      refine wp_region_here 10 [(0, false), (1, false), (2, false), (3, false), (4, false), (5, false), (6, false), (7, false), (8, false), (9, false)] (fun _ => .cells #[] 0) (by kernel_rfl) (by kernel_rfl) ?_
      repeat (first | (refine wpP_q rfl rfl rfl ?_; apply Exists.intro; refine ⟨fun w' hw' => ?_, fun K hK => ?_⟩; (focus ((obtain ⟨⟨y0, y1, y2, y3⟩, z0, z1, z2, z3⟩ := HC1.out _ hw'; have q0 := CK.out _ hw'); go_simp; first | exact quiet_value | with_reducible exact quiet_enter q0)); simp only [Act.put, List.setIfInBounds_toArray, List.set_cons_zero, List.set_cons_succ]; refine hK.out _ ?_; clear hK K) | (refine wpP_skip rfl rfl rfl (fun K hK => ?_); simp only [Act.put, List.setIfInBounds_toArray, List.set_cons_zero, List.set_cons_succ]; refine hK.out _ ?_; clear hK K))
      refine wpP_nil ?_
      intro w2 hb2
      have HB2 := Lib.hid (HB.out.trans (hb2.mono HB.out.size))
      clear hb2
      (try simp only [List.drop_succ_cons]); (try simp only [List.drop_zero]); (try simp only [List.drop_nil])
      go_wp2_with fail
      go_roundw
      case rel => exact ⟨k + 1, rfl, by omega, HB2⟩
      case measure => simp [intOf]; omega
    · obtain rfl : k = n := by omega
      have hkI : ¬ (k : Int) < (k : Int) := by omega
      go_wp2_with fail
      go_ret
      exact ⟨rfl, HB.out⟩
end
end Go.Proofs.Ytangcgfchalnaaa

/- mark: Next, of any number. -/
namespace Go.Proofs.Ytangcgfchalnaaa
open Go.RowKit
section
variable {w : World} {F : Nat → Prop} {i : Nat} {la mo pa : Int} {S : List SrP} {M : List Ev}
set_option maxHeartbeats 8000000 in
set_option maxRecDepth 100000 in
theorem mnext_big {n0 mk : Int} (h : IntO i la mo pa S w F) (h0 : 1099511627776 ≤ n0) (hk : mkI la mo = mk) (hM : btE pa mk (S.map (fun y : SrP => y.2)) = M) :
    Calls Try.prog 14 #[iptr i, .int .i64 n0] w (NxP w S M mk) := by
  obtain ⟨m1, hm1⟩ : ∃ m : Nat, m = 1099511627777 := ⟨_, rfl⟩
  obtain ⟨hMl, hMs⟩ := evs_len h pa mk
  rw [hM] at hMl hMs
  have HMt : Hid (∀ e ∈ M, pa < e.1 ∧ e.1 ≤ mk) := Lib.hid (fun e he => by rw [← hM] at he; exact allE_tm ((btE_perm _ _ _).mem_iff.1 he))
  have HI := Lib.hid h
  have HMl := Lib.hid (And.intro hMl hMs)
  have CM := Lib.hid (fun W (hb : Below w.heap.size w W) => mmark_any ((IntO.obj _ _ _ _ _).below h hb))
  have CB := Lib.hid (fun W (hb : Below w.heap.size w W) => between_any (most := m1) ((IntO.obj _ _ _ _ _).below h hb) (by omega) hM)
  obtain ⟨hkk, own, t, v, bs, hC⟩ := h
  have CR := Lib.hid (mright_any hC)
  have HBx := Lib.hid hC.box
  rw [hk] at CM
  obtain ⟨z, hz⟩ : ∃ z : Int, z = 1099511627776 := ⟨_, rfl⟩
  have hw1 : IntKind.i64.wrap (z + 1) = (m1 : Int) := by rw [IntKind.wrap_i64]; omega
  have hmn : (if (1099511627776 : Int) < n0 then 1099511627776 else n0) = z := by split <;> omega
  have HM1 := Lib.hid hm1
  have hmx : (0 : Int) < n0 := by omega
  have HN0 := Lib.hid h0
  clear hMl hMs hkk hC hk hM h0 hm1 hz
  go_enter Try.func14, Try.ntmps14
  go_wp2_with fail
  refine CR.out.mono ?_
  rintro e w1 ⟨rfl, rfl⟩
  go_wp2_with fail
  refine wp_region_here 11 [(0, false), (1, false), (2, false), (3, false), (4, false), (5, false), (6, false), (7, false), (8, false), (9, false), (10, true)] (fun _ => .cells #[] 0) (by kernel_rfl) (by kernel_rfl) ?_
  repeat (first | (refine wpP_q rfl rfl rfl ?_; apply Exists.intro; refine ⟨fun w' hw' => ?_, fun K hK => ?_⟩; (focus ((have k2 := cellAt (o := 2) (v := .int .i64 pa) (keepB HBx.out hw') rfl); go_simp; first | exact quiet_value | with_reducible exact quiet_enter (CM.out _ hw'))); simp only [Act.put, List.setIfInBounds_toArray, List.set_cons_zero, List.set_cons_succ]; refine hK.out _ ?_; clear hK K) | (refine wpP_skip rfl rfl rfl (fun K hK => ?_); simp only [Act.put, List.setIfInBounds_toArray, List.set_cons_zero, List.set_cons_succ]; refine hK.out _ ?_; clear hK K))
  refine wpP_loose (fun v _ => BtF w S (M.take m1) v) (fun v _ => fun _ _ ⟨X, h1, h2⟩ hb => ⟨X, h1.below hb, h2⟩) rfl rfl rfl (fun w' hw' => ?_) (fun K hK v bs hbs => ?_)
  focus
    have HCd := Lib.hid hw'
    clear hw'
    go_simp
    exact ⟨rfl, (CB.out _ HCd.out).mono fun e w'' ⟨ov, X, h1, h2, h3, h4⟩ => ⟨_, h1, h4, [], by simp, X, h2.low HCd.out.size, h3⟩⟩
  simp only [Act.put, List.setIfInBounds_toArray, List.set_cons_zero, List.set_cons_succ]
  refine hK.out _ _ _ ?_
  clear hK K
  refine wpP_nil ?_
  rintro w2 ⟨hb2, X, hX1, hX2⟩
  obtain ⟨A, c, rfl⟩ := or_form hX1.row
  have H2 := Lib.hid (And.intro hb2 (And.intro hX1 hX2))
  obtain ⟨n, hn⟩ : ∃ n, X.length = n := ⟨_, rfl⟩
  have hnl : (M.take m1).length = n := by rw [← hn, ← List.length_map (f := smC), hX2, List.length_map]
  have HN := Lib.hid (And.intro hn hnl)
  clear hb2 hX1 hX2 hnl CB
  (try simp only [List.drop_succ_cons]); (try simp only [List.drop_zero]); (try simp only [List.drop_nil])
  rw [hn]
  clear hw1 hmn
  have hlt : n < 1099511627776 := by
    have := HN.out.2
    rw [List.length_take] at this
    have := HMl.out.1
    have := HM1.out
    omega
  have hleI : (n : Int) ≤ n0 := by have := HN0.out; omega
  have HMe : Hid (M.length = n) := Lib.hid (by have := HN.out.2; rw [List.length_take] at this; have := HM1.out; omega)
  have HLt := Lib.hid hlt
  clear hlt
  go_wp2_with fail
  refine (CM.out _ H2.out.1).mono ?_
  rintro e w3 ⟨rfl, hb3⟩
  have H3 := Lib.hid hb3
  clear hb3
  go_wp2_with fail
  refine bodyPost_ret (v := .tuple #[.slice A n c, .int .i64 mk]) (by simp only [results, Try.results14]; go_simp) rfl ⟨_, X, rfl, ?_, ?_, H2.out.1.trans (H3.out.mono H2.out.1.size)⟩
  · have := H2.out.2.1.below H3.out
    rw [HN.out.1] at this
    exact this
  · have h := H2.out.2.2
    rw [List.take_of_length_le (by have := HMe.out; have := HLt.out; have := HM1.out; omega)] at h
    exact h
set_option maxHeartbeats 8000000 in
set_option maxRecDepth 100000 in
theorem mnext_zero {n0 mk : Int} (h : IntO i la mo pa S w F) (h0 : n0 ≤ 0) (hk : mkI la mo = mk) (hM : btE pa mk (S.map (fun y : SrP => y.2)) = M) :
    Calls Try.prog 14 #[iptr i, .int .i64 n0] w (NxP w S (nxL M 0) (nxT M 0 pa mk)) := by
  have HPk0 : Hid (0 ≤ pa ∧ mk ≤ 1099511627776) := Lib.hid ⟨h.1.pa0, by rw [← hk]; unfold mkI; have := h.1.la0; have := h.1.mo1; omega⟩
  obtain ⟨hMl, hMs⟩ := evs_len h pa mk
  rw [hM] at hMl hMs
  have HMt : Hid (∀ e ∈ M, pa < e.1 ∧ e.1 ≤ mk) := Lib.hid (fun e he => by rw [← hM] at he; exact allE_tm ((btE_perm _ _ _).mem_iff.1 he))
  have HI := Lib.hid h
  have HMl := Lib.hid (And.intro hMl hMs)
  have CM := Lib.hid (fun W (hb : Below w.heap.size w W) => mmark_any ((IntO.obj _ _ _ _ _).below h hb))
  have CB := Lib.hid (fun W (hb : Below w.heap.size w W) => between_any (most := 1) ((IntO.obj _ _ _ _ _).below h hb) (by omega) hM)
  obtain ⟨hkk, own, t, v, bs, hC⟩ := h
  have CR := Lib.hid (mright_any hC)
  have HBx := Lib.hid hC.box
  rw [hk] at CM
  obtain ⟨L, hL⟩ : ∃ L, nxL M 0 = L := ⟨_, rfl⟩
  obtain ⟨T, hT⟩ : ∃ T, nxT M 0 pa mk = T := ⟨_, rfl⟩
  rw [hL, hT]
  have HLT := Lib.hid (And.intro hL hT)
  have CB1 : Hid (∀ W, Below w.heap.size w W → Calls Try.prog 31 #[iptr i, .int .i64 pa, .int .i64 mk, .int .i64 1] W (BtP W S (M.take 1))) := Lib.hid (fun W hb => CB.out W hb)
  clear CB
  have CB := Lib.hid CB1.out
  clear CB1
  have HPk : Hid (0 ≤ pa ∧ mk ≤ 1099511627776) := Lib.hid HPk0.out
  have hmx : ¬ (0 : Int) < n0 := by omega
  have hmx3 : n0 ≤ 0 := h0
  clear hMl hMs hkk hC hk hM hL hT h0 HPk0
  go_enter Try.func14, Try.ntmps14
  go_wp2_with fail
  refine CR.out.mono ?_
  rintro e w1 ⟨rfl, rfl⟩
  go_wp2_with fail
  all_goals
    clear hmx hmx3
    refine wp_region_here 11 [(0, false), (1, false), (2, false), (3, false), (4, false), (5, false), (6, false), (7, false), (8, false), (9, false), (10, true)] (fun _ => .cells #[] 0) (by kernel_rfl) (by kernel_rfl) ?_
    repeat (first | (refine wpP_q rfl rfl rfl ?_; apply Exists.intro; refine ⟨fun w' hw' => ?_, fun K hK => ?_⟩; (focus ((have k2 := cellAt (o := 2) (v := .int .i64 pa) (keepB HBx.out hw') rfl); go_simp; first | exact quiet_value | with_reducible exact quiet_enter (CM.out _ hw'))); simp only [Act.put, List.setIfInBounds_toArray, List.set_cons_zero, List.set_cons_succ]; refine hK.out _ ?_; clear hK K) | (refine wpP_skip rfl rfl rfl (fun K hK => ?_); simp only [Act.put, List.setIfInBounds_toArray, List.set_cons_zero, List.set_cons_succ]; refine hK.out _ ?_; clear hK K))
    refine wpP_loose (fun v _ => BtF w S (M.take 1) v) (fun v _ => fun _ _ ⟨X, h1, h2⟩ hb => ⟨X, h1.below hb, h2⟩) rfl rfl rfl (fun w' hw' => ?_) (fun K hK v bs hbs => ?_)
    focus
      have HCd := Lib.hid hw'
      clear hw'
      go_simp
      exact ⟨rfl, (CB.out _ HCd.out).mono fun e w'' ⟨ov, X, h1, h2, h3, h4⟩ => ⟨_, h1, h4, [], by simp, X, h2.low HCd.out.size, h3⟩⟩
    simp only [Act.put, List.setIfInBounds_toArray, List.set_cons_zero, List.set_cons_succ]
    refine hK.out _ _ _ ?_
    clear hK K
    refine wpP_nil ?_
    rintro w2 ⟨hb2, X, hX1, hX2⟩
    obtain ⟨A, c, rfl⟩ := or_form hX1.row
    have H2 := Lib.hid (And.intro hb2 (And.intro hX1 hX2))
    obtain ⟨n, hn⟩ : ∃ n, X.length = n := ⟨_, rfl⟩
    have hnl : (M.take 1).length = n := by rw [← hn, ← List.length_map (f := smC), hX2, List.length_map]
    have HN := Lib.hid (And.intro hn hnl)
    clear hb2 hX1 hX2 hnl CB
    (try simp only [List.drop_succ_cons]); (try simp only [List.drop_zero]); (try simp only [List.drop_nil])
    rw [hn]
    by_cases hle : n ≤ 0
    · have hleI : (n : Int) ≤ 0 := by omega
      have hn0 : n = 0 := by omega
      have HMe : Hid (M.length = n) := Lib.hid (by have := HN.out.2; rw [List.length_take] at this; omega)
      have HLe := Lib.hid hle
      clear hn0
      go_wp2_with fail
      refine (CM.out _ H2.out.1).mono ?_
      rintro e w3 ⟨rfl, hb3⟩
      have H3 := Lib.hid hb3
      clear hb3
      go_wp2_with fail
      have e1 : mk = T := by rw [← HLT.out.2]; unfold nxT; rw [if_pos (by rw [HMe.out]; exact HLe.out)]
      have e2 : M = L := by rw [← HLT.out.1]; unfold nxL; rw [if_pos (by rw [HMe.out]; exact HLe.out)]
      subst e1 e2
      refine bodyPost_ret (v := .tuple #[.slice A n c, .int .i64 mk]) (by simp only [results, Try.results14]; go_simp) rfl ⟨_, X, rfl, ?_, ?_, H2.out.1.trans (H3.out.mono H2.out.1.size)⟩
      · have := H2.out.2.1.below H3.out
        rw [HN.out.1] at this
        exact this
      · have h := H2.out.2.2
        rw [List.take_of_length_le (by have := HMe.out; have := HLe.out; omega)] at h
        exact h
    · have hleI : ¬ (n : Int) ≤ 0 := by omega
      have hlen : M.length > 0 := by have := HN.out.2; rw [List.length_take] at this; omega
      have hnm : n = 1 := by have := HN.out.2; rw [List.length_take] at this; omega
      have hmX : 0 < X.length := by omega
      -- the samples' times are the events'
      have hmap : X.map smC = (M.take 1).map (smE S) := H2.out.2.2
      have htime : ∀ j (hj : j < X.length), ∃ hj' : j < M.length, X[j].2.2.1 = M[j].1 := fun j hj => by
        have hj' : j < M.length := by omega
        refine ⟨hj', ?_⟩
        have h1 : (X.map smC)[j]'(by simpa using hj) = smC X[j] := List.getElem_map ..
        have hjt : j < (M.take 1).length := by rw [HN.out.2]; omega
        have h2 : ((M.take 1).map (smE S))[j]'(by simpa using hjt) = smE S M[j] := by rw [List.getElem_map, List.getElem_take]
        have h3 : smC X[j] = smE S M[j] := by
          rw [← h1, ← h2]
          congr 1
        have := congrArg (fun y => y.2.1) h3
        exact this
      obtain ⟨ta, hta⟩ : ∃ ta, nxA M 0 = ta := ⟨_, rfl⟩
      have hta2 : M[0].1 = ta := by rw [← hta]; unfold nxA; rw [List.getD_eq_getElem?_getD, List.getElem?_eq_getElem hlen]; rfl
      have HTa : Hid (pa < ta ∧ ta ≤ mk) := Lib.hid (by rw [← hta2]; exact HMt.out _ (List.getElem_mem _))
      obtain ⟨K, hK⟩ : ∃ K, nxK M 0 = K := ⟨_, rfl⟩
      have hKm : K ≤ 0 := by rw [← hK]; exact nxK_le HMl.out.2 hlen
      obtain ⟨s1, s2⟩ := srt_count ta HMl.out.2
      have hKe : M.countP (fun e => decide (e.1 < ta)) = K := by rw [← hK, ← hta]; rfl
      rw [hKe] at s1 s2
      obtain ⟨g', c', e', q0, q1, q2, q3⟩ := H2.out.2.1.at_ hmX
      obtain ⟨rfl, rfl⟩ : A = some ⟨g', 0, none⟩ ∧ c = c' := by simpa using e'
      have hq : X[0].2.2.1 = ta := by obtain ⟨_, h⟩ := htime 0 hmX; rw [h]; exact hta2
      rw [hq] at q2
      have HAl := Lib.hid (And.intro (newB w2 (.cells #[.int .i64 ta] 2)) (below_alloc (Below.refl w2.heap.size w2) (.cells #[.int .i64 ta] 2)))
      have CD := Lib.hid (delF_any (ta := ta) (H2.out.2.1.below HAl.out.2) HAl.out.1 (K := K) (by omega) (by have := HMl.out.1; omega) (fun j hj hk => by obtain ⟨h1, h2⟩ := htime j hj; rw [h2]; exact s1 j h1 hk) (fun j hj hk => by obtain ⟨h1, h2⟩ := htime j hj; rw [h2]; exact s2 j h1 hk))
      rw [hn] at CD
      have HK := Lib.hid (And.intro hK (And.intro hta (And.intro hKm hlen)))
      have hmnI : (0 : Int) < (n : Int) := by omega
      have hmnN : 0 < n := by omega
      simp only [Nat.zero_mul, Nat.zero_add] at q2
      clear hlen hnm hmX hmap htime hta hta2 hK hKm s1 s2 hKe q0 q1 q3 hq e' hle
      go_wp2_with fail
      refine CD.out.mono ?_
      rintro e w3 ⟨A3, c3, rfl, hO3, hOn3⟩
      have H3 := Lib.hid (And.intro hO3 hOn3)
      have HB3 : Hid (Below w.heap.size w w3) := Lib.hid ((H2.out.1.trans (HAl.out.2.mono H2.out.1.size)).trans (hOn3.below (fun k hk => (World.ownsRow.lt H2.out.2.1.row k (by rw [hn]; exact hk)).1) (by have := H2.out.1.size; have := HAl.out.2.size; omega)))
      have HBa : Hid (w3.heap[w2.heap.size]? = some (.cells #[.int .i64 ta] 2 (0, 0))) := Lib.hid (hOn3.get HAl.out.1 (fun e => by have := (World.ownsRow.lt H2.out.2.1.row w2.heap.size (by rw [hn]; exact e)).2; omega))
      have HBx3 := Lib.hid (keepB HBx.out HB3.out)
      have HLe : Hid (¬ M.length ≤ 0) := Lib.hid (by have := HK.out.2.2.2; omega)
      clear hO3 hOn3 q2 CD
      have hK0 : K = 0 := by have := HK.out.2.2.1; omega
      · have e1 : pa = T := by rw [← HLT.out.2]; unfold nxT; rw [if_neg HLe.out, HK.out.1, if_pos hK0]
        have e2 : [] = L := by rw [← HLT.out.1]; unfold nxL; rw [if_neg HLe.out, HK.out.1, hK0]; rfl
        subst e1 e2
        have hKI : (K : Int) = 0 := by omega
        have hKb : ((K : Int) == 0) = true := beq_iff_eq.2 hKI
        have hKd : decide ((K : Int) = 0) = true := decide_eq_true hKI
        clear HLT
        go_wp2_with fail
        refine wp_region_here 6 [(0, false), (1, false), (2, false), (3, false), (4, false), (5, false)] (fun _ => .cells #[] 0) (by kernel_rfl) (by kernel_rfl) ?_
        repeat (first | (refine wpP_q rfl rfl rfl ?_; apply Exists.intro; refine ⟨fun w' hw' => ?_, fun K hK => ?_⟩; (focus ((have k2 := cellAt (o := 2) (v := .int .i64 pa) (keepB HBx3.out hw') rfl); go_simp; first | exact quiet_value | fail)); simp only [Act.put, List.setIfInBounds_toArray, List.set_cons_zero, List.set_cons_succ]; refine hK.out _ ?_; clear hK K) | (refine wpP_skip rfl rfl rfl (fun K hK => ?_); simp only [Act.put, List.setIfInBounds_toArray, List.set_cons_zero, List.set_cons_succ]; refine hK.out _ ?_; clear hK K))
        refine wpP_nil ?_
        intro w4 hb4
        have HB4 := Lib.hid (HB3.out.trans (hb4.mono HB3.out.size))
        clear hb4
        (try simp only [List.drop_succ_cons]); (try simp only [List.drop_zero]); (try simp only [List.drop_nil])
        go_wp2_with fail
        exact bodyPost_ret (v := .tuple #[.slice none 0 0, .int .i64 pa]) (by simp only [results, Try.results14]; go_simp) rfl ⟨_, [], rfl, ⟨World.ownsRow_nil _ _ _ _, by simp⟩, by simp, HB4.out⟩
theorem mnext_any {n0 mk : Int} (h : IntO i la mo pa S w F) (hk : mkI la mo = mk) (hM : btE pa mk (S.map (fun y : SrP => y.2)) = M) :
    Calls Try.prog 14 #[iptr i, .int .i64 n0] w (NxP w S (nxL M n0.toNat) (nxT M n0.toNat pa mk)) := by
  rcases Int.lt_or_le 0 n0 with h0 | h0
  · rcases Int.lt_or_le n0 1099511627776 with h1 | h1
    · have h2 := mnext_pos (mn := n0.toNat) h (by omega) (by omega) hk hM
      rw [show ((n0.toNat : Nat) : Int) = n0 by omega] at h2
      exact h2
    · have h2 := mnext_big h h1 hk hM
      have hl := (evs_len h pa mk).1
      rw [hM] at hl
      have hle : M.length ≤ n0.toNat := by omega
      unfold nxL nxT
      rw [if_pos hle, if_pos hle]
      exact h2
  · have h2 := mnext_zero h h0 hk hM
    rw [show n0.toNat = 0 by omega]
    exact h2
end
end Go.Proofs.Ytangcgfchalnaaa

/- mark: rows of samples of a law's own: those that Next told, all together; those that were taken. -/
namespace Go.Proofs.Ytangcgfchalnaaa
open Go.RowKit
abbrev smF (L : List Sm) : List Value := rowF smc L
theorem infoSmR : (Try.prog.info? 34).map (fun i => (i.zero, i.size, i.bytes)) = some (some (.agg #[.string ⟨#[]⟩, .slice none 0 0, .int .i64 0, .int .i64 0]), 4, 56) := by kernel_rfl
theorem wpL_sms {w : World} {ops : Array Oper} {rest : List Oper} {o : Oper} {a : Act} {Q : Exit → Act → World → Prop} (hgd : o.guard = none) (s x : Operand)
    (ho : o.op = .call { callee := .builtin .append, args := #[s, x], argTypes := #[22, 22] }) (base : Nat)
    (v : Value) (l : List Sm) (n : Nat) (hs : a.eval s = v) (hown : w.ownsRow base 34 4 v n (smF l)) (A : Option Addr) (m c : Nat) (news : List Sm) (hx : a.eval x = .slice A m c) (hr : Reads w w.heap.size 4 A m (smF news))
    (hlen : n + m ≤ 1000000000) (hbase : base ≤ w.heap.size)
    (h : ∀ v' w', w'.ownsRow base 34 4 v' (n + m) (smF l ++ smF news) → w.grownBy w' v.ownBlock → (v'.ownBlock = v.ownBlock ∨ v'.ownBlock = some w.heap.size) → wpList Try.prog ops Q rest (a.put o.dst v') w') : wpList Try.prog ops Q (o :: rest) a w := by
  obtain ⟨i, hi, hz, h1, h2⟩ := info_parts infoSmR
  exact wpList_append_any w hgd s x 22 ho base 34 i _ 4 56 Try.underlying22 hi hz h1 h2 rfl (by omega) v n (smF l) hs hown w.heap.size A m c (smF news) hx hr (smc_one _) (by unfold maxLen; omega) (by omega) hbase
    fun v' w' h3 h4 h5 => h v' w' h3 h4 h5
/-- Samples that were made, their labels' rows with them. -/
def OutO (v : Value) (X : List Sm) : Ob := fun w F => w.ownsRow 0 34 4 v X.length (rowF smc X) ∧ (∀ k, v.ownBlock = some k → F k) ∧ ∀ x ∈ X, RowAt w F 90 2 (lsV x.2.1) x.2.1.2.2.length (lbF x.2.1.2.2)
theorem OutO.obj (v : Value) (X : List Sm) : Obj1 (OutO v X) where
  keep := fun ⟨h1, h2, h3⟩ ho hn => ⟨or_only h1 ho (fun k hk => hn k (h2 k hk) (World.ownsRow.lt h1 k hk).2), h2, fun x hx => (h3 x hx).keep ho hn⟩
  old := fun ⟨h1, h2, h3⟩ => ⟨h1, fun k hk => ⟨h2 k hk, (World.ownsRow.lt h1 k hk).2⟩, fun x hx => (h3 x hx).weak (fun _ hl hk => ⟨hk, hl⟩)⟩
  weak := fun ⟨h1, h2, h3⟩ hG => ⟨h1, fun k hk => hG k (World.ownsRow.lt h1 k hk).2 (h2 k hk), fun x hx => (h3 x hx).weak hG⟩
theorem OutO.of_made {w : World} {B : Nat} {v : Value} {X : List Sm} (h : OutM w B v X) : OutO v X w (fun k => B ≤ k) := ⟨or_base h.row (Nat.zero_le _), fun k hk => (World.ownsRow.lt h.row k hk).1, h.lab⟩
theorem OutO.nil {w : World} {F : Nat → Prop} : OutO (.slice none 0 0) [] w F := ⟨World.ownsRow_nil _ _ _ _, fun k e => (by cases e), fun x (hx : x ∈ []) => (List.not_mem_nil hx).elim⟩
theorem OutO.rd {w : World} {F : Nat → Prop} {v : Value} {X : List Sm} (h : OutO v X w F) : ∃ A c, v = .slice A X.length c ∧ RdSm w A X.length X := by
  obtain ⟨A, c, rfl⟩ := or_form h.1
  refine ⟨A, c, rfl, rfl, Reads.of_own h.1, fun x hx => ?_⟩
  obtain ⟨A', c', e, _, _, hr, _⟩ := (h.2.2 x hx).form
  have e1 : x.2.1.1 = A' := by injection e
  show Reads w w.heap.size 2 x.2.1.1 _ _
  rw [e1]
  exact hr
theorem OutO.app {w w' : World} {H : Nat → Prop} {v v' ov : Value} {X Y : List Sm} (h : Star (OutO v X) (OutO ov Y) w H) (ho : w'.ownsRow 0 34 4 v' (X.length + Y.length) (rowF smc X ++ rowF smc Y)) (hg : w.grownBy w' v.ownBlock) (hv : v'.ownBlock = v.ownBlock ∨ v'.ownBlock = some w.heap.size) : Goes (OutO v' (X ++ Y)) H w w' := by
  obtain ⟨F, G, h1, h2, h3, h4, h5⟩ := h
  have hO : Only (fun k => v.ownBlock = some k) w w' := ⟨hg.os, hg.tape, hg.output, hg.size, fun i hi hn => hg.block i hi (fun e => hn e.symm)⟩
  have hlt := fun k hk => World.ownsRow.lt ho k hk
  have old : ∀ Z : List Sm, (∀ x ∈ Z, RowAt w H 90 2 (lsV x.2.1) x.2.1.2.2.length (lbF x.2.1.2.2)) → ∀ x ∈ Z, RowAt w' H 90 2 (lsV x.2.1) x.2.1.2.2.length (lbF x.2.1.2.2) := fun Z hZ x hx => by
    refine (hZ x hx).keep' hO (fun k hk e => ?_)
    obtain ⟨g, c, cur, q1, q2⟩ : ∃ (g c : Nat) (cur : Array Value), k = g ∧ w.heap[g]? = some (.cells cur 34 (0, 0)) := by
      rcases h1.1.2 with ⟨e2, _⟩ | ⟨g, c, cur, e2, _, q4, _⟩
      · rw [e2] at e; cases e
      · rw [e2] at e; cases e; exact ⟨_, c, cur, rfl, q4⟩
    subst q1
    rcases (hZ x hx).2 with ⟨e2, _⟩ | ⟨g2, o, c2, cur2, e2, _, q4, _⟩
    · rw [e2] at hk; cases hk
    · rw [e2] at hk
      cases hk
      rw [q2] at q4
      cases q4
  refine ⟨fun k => (H k ∨ w.heap.size ≤ k) ∧ k < w'.heap.size, ⟨?_, fun k hk => ⟨?_, (hlt k hk).2⟩, fun x hx => ?_⟩, fun k hk => hk, hO.mono (fun k _ hk => h4 k (h1.2.1 k hk))⟩
  · rw [List.length_append, rowF_append]; exact ho
  · rcases hv with e | e
    · rw [e] at hk; exact .inl (h4 k (h1.2.1 k hk))
    · rw [e] at hk; cases hk; exact .inr (Nat.le_refl _)
  · rcases List.mem_append.1 hx with hx | hx
    · exact (old X (fun x hx => (h1.2.2 x hx).weak (fun k _ => h4 k)) x hx).weak (fun k hl hk => ⟨.inl hk, hl⟩)
    · exact (old Y (fun x hx => (h2.2.2 x hx).weak (fun k _ => h5 k)) x hx).weak (fun k hl hk => ⟨.inl hk, hl⟩)
/-- The samples that were taken: only how many. -/
def TookO (v : Value) (n : Nat) : Ob := fun w F => ∃ xs, RowAt w F 34 4 v n xs
theorem TookO.obj (v : Value) (n : Nat) : Obj1 (TookO v n) where
  keep := fun ⟨xs, h⟩ ho hn => ⟨xs, h.keep ho hn⟩
  old := fun ⟨xs, h⟩ => ⟨xs, h.weak (fun _ hl hk => ⟨hk, hl⟩)⟩
  weak := fun ⟨xs, h⟩ hG => ⟨xs, h.weak hG⟩
theorem TookO.nil {w : World} {F : Nat → Prop} : TookO (.slice none 0 0) 0 w F := ⟨[], RowAt.nil_⟩
/-- One more was taken, by an append in a drawn region. -/
theorem LM.took {w0 wr W : World} {A : Ob} {S : Nat → Prop} {v v' : Value} {n : Nat} {xs : List Value} (hA : Obj1 A) (h : LM w0 (Star A (TookO v n)) wr) (hS : ∀ k, S k ↔ v.ownBlock = some k) (hd : D7 wr S 34 4 (n + 1) xs v' W) : LM w0 (Star A (TookO v' (n + 1))) W := by
  obtain ⟨w2, hb, hr, ho⟩ := hd
  have h2 := h.go (Star.obj hA (TookO.obj v n)) hb
  refine h2.goes (fun H ⟨F, G, g1, g2, g3, g4, g5⟩ => ?_)
  obtain ⟨ys, hy⟩ := g2
  have hG : ∀ k, S k → G k := fun k hk => (hy.lt k ((hS k).1 hk)).1
  refine Star.goes2 hA g1 g3 g4 g5 ⟨fun k => (S k ∨ k = w2.heap.size) ∧ k < W.heap.size, ⟨xs, hr.weak (fun k hl hk => ⟨hk, hl⟩)⟩, fun k hk => ⟨hk.1.imp (hG k) (fun e => by omega), hk.2⟩, ho.mono (fun k _ hk => hG k hk)⟩
/-- What Next told, told all together. -/
theorem LM.told {w0 w w' w2 : World} {A : Ob} {v v' ov : Value} {X Y : List Sm} (hA : Obj1 A) (h : LM w0 (Star A (OutO v X)) w) (hb : Below w.heap.size w w') (hY : OutM w' w.heap.size ov Y) (ho : w2.ownsRow 0 34 4 v' (X.length + Y.length) (rowF smc X ++ rowF smc Y)) (hg : w'.grownBy w2 v.ownBlock) (hv : v'.ownBlock = v.ownBlock ∨ v'.ownBlock = some w'.heap.size) : LM w0 (Star A (OutO v' (X ++ Y))) w2 := by
  have h1 := (LM.more (Star.obj hA (OutO.obj v X)) h hb (OutO.of_made hY) (fun _ h => h)).assoc
  refine h1.goes (fun H ⟨F, G, g1, g2, g3, g4, g5⟩ => Star.goes2 hA g1 g3 g4 g5 (OutO.app g2 ho hg hv))
theorem LM.ssoc {w0 w : World} {A B C : Ob} (h : LM w0 (Star A (Star B C)) w) : LM w0 (Star (Star A B) C) w := h.comm.assoc.comm.assoc.comm
end Go.Proofs.Ytangcgfchalnaaa

/- mark: what the samples that were told, and that were taken, are. No world. -/
namespace Go.Proofs.Ytangcgfchalnaaa
open Go.RowKit Go.MapKept
section
variable {la mo pa f u : Int} {S : List SrP} {k cnt : Nat} {X : List Sm} {M : List Ev}
theorem told_at (ht : X.map smC = M.map (smE S)) {j : Nat} (hj : j < X.length) : ∃ hj' : j < M.length, smC X[j] = smE S M[j] := by
  have hl : X.length = M.length := by
    have := congrArg List.length ht
    rwa [List.length_map, List.length_map] at this
  refine ⟨by omega, ?_⟩
  have h1 : (X.map smC)[j]'(by simpa using hj) = (M.map (smE S))[j]'(by rw [List.length_map]; omega) := by congr 1
  rwa [List.getElem_map, List.getElem_map] at h1
/-- In order of times, none behind what was passed. -/
theorem told_order (h : PasI la mo pa S k cnt) (ht : X.map smC = (btE f pa (ptsL S)).map (smE S)) {j : Nat} (hj : j < X.length) : X[j].2.2.1 ≤ pa ∧ ∀ (_ : 0 < j), X[j - 1].2.2.1 ≤ X[j].2.2.1 := by
  obtain ⟨h1, h2⟩ := told_at ht hj
  have e1 : X[j].2.2.1 = (btE f pa (ptsL S))[j].1 := congrArg (fun y => y.2.1) h2
  refine ⟨?_, fun h0 => ?_⟩
  · rw [e1]
    exact (btE_tm (List.getElem_mem h1)).2
  · obtain ⟨h3, h4⟩ := told_at ht (show j - 1 < X.length by omega)
    have e2 : X[j - 1].2.2.1 = (btE f pa (ptsL S))[j - 1].1 := congrArg (fun y => y.2.1) h4
    rw [e1, e2]
    exact srt_time (btE_srt h.rise) h3 h1 (by omega)
theorem told_ser (h : PasI la mo pa S k cnt) (ht : X.map smC = (btE f u (ptsL S)).map (smE S)) : ∀ x ∈ X, smallS x.1 x.2.1.2.2 := fun x hx => by
  obtain ⟨j, hj, rfl⟩ := List.mem_iff_getElem.1 hx
  obtain ⟨h1, h2⟩ := told_at ht hj
  have h3 := btE_id (List.getElem_mem h1)
  rw [List.length_map] at h3
  have h4 : (X[j].1, X[j].2.1.2.2) = (smE S (btE f u (ptsL S))[j]).1 := congrArg (fun y => y.1) h2
  generalize (btE f u (ptsL S))[j] = e at h3 h4
  have h5 : (smE S e).1 = (S[e.2.1 - 1]'(by omega)).1 := by
    unfold smE
    simp only
    rw [List.getD_eq_getElem?_getD, List.getElem?_eq_getElem (by rw [List.length_map]; omega)]
    simp
  have h6 := (h.ser _ (List.getElem_mem (show e.2.1 - 1 < S.length by omega))).2
  rw [← h5, ← h4] at h6
  exact h6
theorem told_len (h : PasI la mo pa S k cnt) (hp : pa ≤ 1099511627776) (ht : X.map smC = (btE 0 pa (ptsL S)).map (smE S)) : X.length ≤ cnt := by
  have e1 := congrArg List.length ht
  rw [List.length_map, List.length_map] at e1
  have e2 := congrArg List.length (btE_cut h.pa0 hp h.rise)
  rw [List.length_append] at e2
  have e3 : (btE 0 1099511627776 (ptsL S)).length = _ := btE_len 0 1099511627776 S
  have e4 := h.tot
  omega
theorem all_len (h : PasI la mo pa S k cnt) (ht : X.map smC = (btE 0 1099511627776 (ptsL S)).map (smE S)) : X.length = cnt := by
  have e1 := congrArg List.length ht
  rw [List.length_map, List.length_map] at e1
  have e3 : (btE 0 1099511627776 (ptsL S)).length = _ := btE_len 0 1099511627776 S
  have e4 := h.tot
  omega
end
end Go.Proofs.Ytangcgfchalnaaa
