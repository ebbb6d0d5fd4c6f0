/- Items: whether they may be (queue.Check). -/
import Derived.Test.YtjnkcgegmffncaaItm
namespace Go.Proofs.Ytjnkcgegmffncaa
open Go.RowKit
/-- What queue.Check asks of an item of its kind. -/
def kindOk (x : ItC) : Bool :=
  if x.1 = 1 then decide (smpE x.2.1 x.2.2.1 x.2.2.2.1 = 0)
  else if x.1 = 2 then decide (0 ≤ x.2.2.2.2.2.1 ∧ x.2.2.2.2.2.1 ≤ 1099511627776)
  else if x.1 = 3 then decide (1 ≤ x.2.2.2.2.2.2.1 ∧ x.2.2.2.2.2.2.1 ≤ 1099511627776) && !(x.2.2.2.2.2.2.2.any badC)
  else false
/-- What queue.Check tells. -/
def itE (x : ItC) : Int := if (eqI x (onlyC x) && kindOk x) = true then 0 else 2
theorem RdCg.nil_ {w : World} : RdCg w none 0 [] := ⟨rfl, Reads.none_, by simp⟩
theorem RdLb.nil_ {w : World} : RdLb w none [] := Reads.none_
section
variable {k t n tm bt : Int} {m : ByteArray} {la ca : Option Addr} {ln lc cn cc : Nat}
theorem only_1 (w : World) : Calls Try.prog 27 #[.agg #[.int .i64 1, .string m, .slice la ln lc, .int .i64 t, .int .i64 n, .int .i64 tm, .int .i64 bt, .slice ca cn cc]] w fun e w' => e = .returned (.agg #[.int .i64 1, .string m, .slice la ln lc, .int .i64 t, .int .i64 n, .int .i64 0, .int .i64 0, .slice none 0 0]) ∧ Below w.heap.size w w' := only_any
theorem only_2 (w : World) : Calls Try.prog 27 #[.agg #[.int .i64 2, .string m, .slice la ln lc, .int .i64 t, .int .i64 n, .int .i64 tm, .int .i64 bt, .slice ca cn cc]] w fun e w' => e = .returned (.agg #[.int .i64 2, .string ⟨#[]⟩, .slice none 0 0, .int .i64 0, .int .i64 0, .int .i64 tm, .int .i64 0, .slice none 0 0]) ∧ Below w.heap.size w w' := only_any
theorem only_3 (w : World) : Calls Try.prog 27 #[.agg #[.int .i64 3, .string m, .slice la ln lc, .int .i64 t, .int .i64 n, .int .i64 tm, .int .i64 bt, .slice ca cn cc]] w fun e w' => e = .returned (.agg #[.int .i64 3, .string ⟨#[]⟩, .slice none 0 0, .int .i64 0, .int .i64 0, .int .i64 0, .int .i64 bt, .slice ca cn cc]) ∧ Below w.heap.size w w' := only_any
theorem only_4 (h1 : k ≠ 1) (h2 : k ≠ 2) (h3 : k ≠ 3) (w : World) : Calls Try.prog 27 #[.agg #[.int .i64 k, .string m, .slice la ln lc, .int .i64 t, .int .i64 n, .int .i64 tm, .int .i64 bt, .slice ca cn cc]] w fun e w' => e = .returned (.agg #[.int .i64 0, .string ⟨#[]⟩, .slice none 0 0, .int .i64 0, .int .i64 0, .int .i64 0, .int .i64 0, .slice none 0 0]) ∧ Below w.heap.size w w' := by
  have := only_any (w := w) (k := k) (m := m) (la := la) (ln := ln) (lc := lc) (t := t) (n := n) (tm := tm) (bt := bt) (ca := ca) (cn := cn) (cc := cc)
  unfold onlyV at this
  rw [if_neg h1, if_neg h2, if_neg h3] at this
  exact this
end
set_option maxHeartbeats 8000000 in
set_option maxRecDepth 100000 in
theorem checkI_any {k t n tm bt : Int} {m : ByteArray} {la ca : Option Addr} {ln lc cn cc : Nat} {L : List Lb} {C : List Cg} {w : World} (hn : L.length = ln) (h : RdLb w la L) (g : RdCg w ca cn C) (hl1 : ln ≤ 1000000) (hl2 : cn ≤ 1000000) (hl3 : ∀ x ∈ C, x.1.2.2.length ≤ 1000000) :
    Calls Try.prog 15 #[.agg #[.int .i64 k, .string m, .slice la ln lc, .int .i64 t, .int .i64 n, .int .i64 tm, .int .i64 bt, .slice ca cn cc]] w fun e w' => e = .returned (.int .i64 (itE (k, m, L, t, n, tm, bt, C.map cgC))) ∧ Below w.heap.size w w' := by
  have HB := Lib.hid (below_alloc (Below.refl w.heap.size w) (.cells #[.int .i64 k, .string m, .slice la ln lc, .int .i64 t, .int .i64 n, .int .i64 tm, .int .i64 bt, .slice ca cn cc] 38))
  have HX := Lib.hid (newB w (.cells #[.int .i64 k, .string m, .slice la ln lc, .int .i64 t, .int .i64 n, .int .i64 tm, .int .i64 bt, .slice ca cn cc] 38))
  have CM := Lib.hid (fun W (hb : Below w.heap.size w W) => csmp_any (m := m) (c := lc) (t := t) (k := n) hn (h.below hb))
  have CC := Lib.hid (fun W (hb : Below w.heap.size w W) => contains_any (c := cc) (g.below hb) hl2)
  have HS := Lib.hid (fun W (hb : Below w.heap.size w W) (k2 t2 n2 tm2 bt2 : Int) (m2 : ByteArray) (la2 ca2 : Option Addr) (ln2 lc2 cn2 cc2 : Nat) (L2 : List Lb) (C2 : List Cg) (a1 : L2.length = ln2) (a2 : RdLb W la2 L2) (a3 : RdCg W ca2 cn2 C2) =>
    sameI_any (k1 := k) (m1 := m) (lc1 := lc) (t1 := t) (n1 := n) (tm1 := tm) (bt1 := bt) (cc1 := cc) (k2 := k2) (m2 := m2) (lc2 := lc2) (t2 := t2) (n2 := n2) (tm2 := tm2) (bt2 := bt2) (cc2 := cc2) hn a1 (h.below hb) a2 (g.below hb) a3 hl1 hl2 hl3)
  have HL := Lib.hid (fun W (hb : Below w.heap.size w W) => h.below hb)
  have HG := Lib.hid (fun W (hb : Below w.heap.size w W) => g.below hb)
  have HN := Lib.hid hn
  have d0 := cellAt (o := 0) HX.out rfl
  have d1 := cellAt (o := 1) HX.out rfl
  have d2 := cellAt (o := 2) HX.out rfl
  have d3 := cellAt (o := 3) HX.out rfl
  have d4 := cellAt (o := 4) HX.out rfl
  have d5 := cellAt (o := 5) HX.out rfl
  have d6 := cellAt (o := 6) HX.out rfl
  have d7 := cellAt (o := 7) HX.out rfl
  obtain ⟨y, hy⟩ : ∃ y, itE (k, m, L, t, n, tm, bt, C.map cgC) = y := ⟨_, rfl⟩
  obtain ⟨q, hq⟩ : ∃ q, eqI (k, m, L, t, n, tm, bt, C.map cgC) (onlyC (k, m, L, t, n, tm, bt, C.map cgC)) = q := ⟨_, rfl⟩
  obtain ⟨r, hr⟩ : ∃ r, kindOk (k, m, L, t, n, tm, bt, C.map cgC) = r := ⟨_, rfl⟩
  have hY : y = if (q && r) = true then 0 else 2 := by rw [← hy, itE, hq, hr]
  have HY := Lib.hid hY
  have HR := Lib.hid hr
  have HQ := Lib.hid hq
  rw [hy]
  clear hn h g hl1 hl2 hl3 hy hq hr hY
  by_cases h1 : k = 1
  · subst h1
    have CS := Lib.hid (fun W (hb : Below w.heap.size w W) => HS.out W hb 1 t n 0 0 m la none ln lc 0 0 L [] HN.out (HL.out W hb) RdCg.nil_)
    have hq := HQ.out
    have hr := HR.out
    simp only [onlyC, if_true] at hq
    simp only [kindOk, if_true] at hr
    simp only [List.map_nil] at CS
    rw [hq] at CS
    obtain ⟨s, hs⟩ : ∃ s, smpE m L t = s := ⟨_, rfl⟩
    rw [hs] at CM hr
    have HR2 := Lib.hid hr
    clear hq HS HL HG HQ HN hr hs HR CC
    have CO := Lib.hid (fun W => only_1 (m := m) (la := la) (ln := ln) (lc := lc) (t := t) (n := n) (tm := tm) (bt := bt) (ca := ca) (cn := cn) (cc := cc) W)
    go_enter Try.func15, Try.ntmps15
    go_wp2_with fail
    clear d0 d1 d2 d3 d4 d5 d6 d7
    refine wp_region_here 5 [(0, false), (1, false), (2, false), (3, false), (4, false)] (fun _ => .cells #[] 0) (by kernel_rfl) (by kernel_rfl) ?_
    repeat (first | (refine wpP_q rfl rfl rfl ?_; apply Exists.intro; refine ⟨fun w' hw' => ?_, fun K hK => ?_⟩; (focus ((have d0 := cellAt (o := 0) (keepB HX.out hw') rfl; have d1 := cellAt (o := 1) (keepB HX.out hw') rfl; have d2 := cellAt (o := 2) (keepB HX.out hw') rfl; have d3 := cellAt (o := 3) (keepB HX.out hw') rfl; have d4 := cellAt (o := 4) (keepB HX.out hw') rfl; have d5 := cellAt (o := 5) (keepB HX.out hw') rfl; have d6 := cellAt (o := 6) (keepB HX.out hw') rfl; have d7 := cellAt (o := 7) (keepB HX.out hw') rfl); go_simp; first | exact quiet_value | first | with_reducible exact quiet_enter (CO.out _) | with_reducible exact quiet_enter (CS.out _ (HB.out.trans (hw'.mono HB.out.size))))); simp only [Act.put, List.setIfInBounds_toArray, List.set_cons_zero, List.set_cons_succ]; refine hK.out _ ?_; clear hK K) | (refine wpP_skip rfl rfl rfl (fun K hK => ?_); simp only [Act.put, List.setIfInBounds_toArray, List.set_cons_zero, List.set_cons_succ]; refine hK.out _ ?_; clear hK K))
    refine wpP_nil ?_
    intro w1 hb1
    have HB1 := Lib.hid (HB.out.trans (hb1.mono HB.out.size))
    have HX1 := Lib.hid (keepB HX.out hb1)
    clear hb1
    (try simp only [List.drop_succ_cons]); (try simp only [List.drop_zero]); (try simp only [List.drop_nil])
    have d0 := cellAt (o := 0) HX1.out rfl
    have d1 := cellAt (o := 1) HX1.out rfl
    have d2 := cellAt (o := 2) HX1.out rfl
    have d3 := cellAt (o := 3) HX1.out rfl
    have d4 := cellAt (o := 4) HX1.out rfl
    have d5 := cellAt (o := 5) HX1.out rfl
    have d6 := cellAt (o := 6) HX1.out rfl
    have d7 := cellAt (o := 7) HX1.out rfl
    clear CO CS
    cases q
    · obtain rfl : y = 2 := HY.out
      clear HY HR2
      go_wp2_with fail
      go_ret
      exact ⟨rfl, HB1.out⟩
    go_wp2_with fail
    refine (CM.out _ HB1.out).mono ?_
    rintro e w2 ⟨rfl, hb2⟩
    have HB2 := Lib.hid (HB1.out.trans (hb2.mono HB1.out.size))
    clear hb2
    by_cases h0 : s = 0
    · obtain rfl : true = r := by rw [← HR2.out, decide_eq_true h0]
      obtain rfl : y = 0 := HY.out
      subst h0
      clear HY HR2
      go_wp2_with fail
      go_ret
      exact ⟨rfl, HB2.out⟩
    · obtain rfl : false = r := by rw [← HR2.out, decide_eq_false h0]
      obtain rfl : y = 2 := HY.out
      have hs0 := beq_ne h0
      clear HY HR2 h0
      go_wp2_with fail
      go_ret
      exact ⟨rfl, HB2.out⟩
  clear CM
  by_cases h2 : k = 2
  · subst h2
    have CS := Lib.hid (fun W (hb : Below w.heap.size w W) => HS.out W hb 2 0 0 tm 0 ⟨#[]⟩ none none 0 0 0 0 [] [] rfl RdLb.nil_ RdCg.nil_)
    have hq := HQ.out
    have hr := HR.out
    simp only [onlyC, h1, if_false, if_true] at hq
    simp only [kindOk, h1, if_false, if_true] at hr
    simp only [List.map_nil] at CS
    rw [hq] at CS
    have HR2 := Lib.hid hr
    clear hq HS HL HG HQ HN hr HR CC h1
    have CO := Lib.hid (fun W => only_2 (m := m) (la := la) (ln := ln) (lc := lc) (t := t) (n := n) (tm := tm) (bt := bt) (ca := ca) (cn := cn) (cc := cc) W)
    go_enter Try.func15, Try.ntmps15
    go_wp2_with fail
    clear d0 d1 d2 d3 d4 d5 d6 d7
    refine wp_region_here 5 [(0, false), (1, false), (2, false), (3, false), (4, false)] (fun _ => .cells #[] 0) (by kernel_rfl) (by kernel_rfl) ?_
    repeat (first | (refine wpP_q rfl rfl rfl ?_; apply Exists.intro; refine ⟨fun w' hw' => ?_, fun K hK => ?_⟩; (focus ((have d0 := cellAt (o := 0) (keepB HX.out hw') rfl; have d1 := cellAt (o := 1) (keepB HX.out hw') rfl; have d2 := cellAt (o := 2) (keepB HX.out hw') rfl; have d3 := cellAt (o := 3) (keepB HX.out hw') rfl; have d4 := cellAt (o := 4) (keepB HX.out hw') rfl; have d5 := cellAt (o := 5) (keepB HX.out hw') rfl; have d6 := cellAt (o := 6) (keepB HX.out hw') rfl; have d7 := cellAt (o := 7) (keepB HX.out hw') rfl); go_simp; first | exact quiet_value | first | with_reducible exact quiet_enter (CO.out _) | with_reducible exact quiet_enter (CS.out _ (HB.out.trans (hw'.mono HB.out.size))))); simp only [Act.put, List.setIfInBounds_toArray, List.set_cons_zero, List.set_cons_succ]; refine hK.out _ ?_; clear hK K) | (refine wpP_skip rfl rfl rfl (fun K hK => ?_); simp only [Act.put, List.setIfInBounds_toArray, List.set_cons_zero, List.set_cons_succ]; refine hK.out _ ?_; clear hK K))
    refine wpP_nil ?_
    intro w1 hb1
    have HB1 := Lib.hid (HB.out.trans (hb1.mono HB.out.size))
    have HX1 := Lib.hid (keepB HX.out hb1)
    clear hb1
    (try simp only [List.drop_succ_cons]); (try simp only [List.drop_zero]); (try simp only [List.drop_nil])
    have d0 := cellAt (o := 0) HX1.out rfl
    have d1 := cellAt (o := 1) HX1.out rfl
    have d2 := cellAt (o := 2) HX1.out rfl
    have d3 := cellAt (o := 3) HX1.out rfl
    have d4 := cellAt (o := 4) HX1.out rfl
    have d5 := cellAt (o := 5) HX1.out rfl
    have d6 := cellAt (o := 6) HX1.out rfl
    have d7 := cellAt (o := 7) HX1.out rfl
    clear CO CS
    cases q
    · obtain rfl : y = 2 := HY.out
      clear HY HR2
      go_wp2_with fail
      go_ret
      exact ⟨rfl, HB1.out⟩
    by_cases h3 : 0 ≤ tm
    · by_cases h4 : tm ≤ 1099511627776
      · obtain rfl : true = r := by rw [← HR2.out, decide_eq_true ⟨h3, h4⟩]
        obtain rfl : y = 0 := HY.out
        clear HY HR2
        go_wp2_with fail
        go_ret
        exact ⟨rfl, HB1.out⟩
      · obtain rfl : false = r := by rw [← HR2.out, decide_eq_false (fun h => h4 h.2)]
        obtain rfl : y = 2 := HY.out
        have h5 : decide (tm ≤ 1099511627776) = false := by simpa using h4
        clear HY HR2
        go_wp2_with fail
        go_ret
        exact ⟨rfl, HB1.out⟩
    · obtain rfl : false = r := by rw [← HR2.out, decide_eq_false (fun h => h3 h.1)]
      obtain rfl : y = 2 := HY.out
      clear HY HR2
      go_wp2_with fail
      go_ret
      exact ⟨rfl, HB1.out⟩
  by_cases h3 : k = 3
  · subst h3
    have CS := Lib.hid (fun W (hb : Below w.heap.size w W) => HS.out W hb 3 0 0 0 bt ⟨#[]⟩ none ca 0 0 cn cc [] C rfl RdLb.nil_ (HG.out W hb))
    have hq := HQ.out
    have hr := HR.out
    simp only [onlyC, h1, h2, if_false, if_true] at hq
    simp only [kindOk, h1, h2, if_false, if_true] at hr
    rw [hq] at CS
    obtain ⟨z, hz⟩ : ∃ z, (C.map cgC).any badC = z := ⟨_, rfl⟩
    rw [hz] at CC hr
    have HR2 := Lib.hid hr
    clear hq HS HL HG HQ HN hr HR h1 h2 hz
    have CO := Lib.hid (fun W => only_3 (m := m) (la := la) (ln := ln) (lc := lc) (t := t) (n := n) (tm := tm) (bt := bt) (ca := ca) (cn := cn) (cc := cc) W)
    go_enter Try.func15, Try.ntmps15
    go_wp2_with fail
    clear d0 d1 d2 d3 d4 d5 d6 d7
    refine wp_region_here 5 [(0, false), (1, false), (2, false), (3, false), (4, false)] (fun _ => .cells #[] 0) (by kernel_rfl) (by kernel_rfl) ?_
    repeat (first | (refine wpP_q rfl rfl rfl ?_; apply Exists.intro; refine ⟨fun w' hw' => ?_, fun K hK => ?_⟩; (focus ((have d0 := cellAt (o := 0) (keepB HX.out hw') rfl; have d1 := cellAt (o := 1) (keepB HX.out hw') rfl; have d2 := cellAt (o := 2) (keepB HX.out hw') rfl; have d3 := cellAt (o := 3) (keepB HX.out hw') rfl; have d4 := cellAt (o := 4) (keepB HX.out hw') rfl; have d5 := cellAt (o := 5) (keepB HX.out hw') rfl; have d6 := cellAt (o := 6) (keepB HX.out hw') rfl; have d7 := cellAt (o := 7) (keepB HX.out hw') rfl); go_simp; first | exact quiet_value | first | with_reducible exact quiet_enter (CO.out _) | with_reducible exact quiet_enter (CS.out _ (HB.out.trans (hw'.mono HB.out.size))))); simp only [Act.put, List.setIfInBounds_toArray, List.set_cons_zero, List.set_cons_succ]; refine hK.out _ ?_; clear hK K) | (refine wpP_skip rfl rfl rfl (fun K hK => ?_); simp only [Act.put, List.setIfInBounds_toArray, List.set_cons_zero, List.set_cons_succ]; refine hK.out _ ?_; clear hK K))
    refine wpP_nil ?_
    intro w1 hb1
    have HB1 := Lib.hid (HB.out.trans (hb1.mono HB.out.size))
    have HX1 := Lib.hid (keepB HX.out hb1)
    clear hb1
    (try simp only [List.drop_succ_cons]); (try simp only [List.drop_zero]); (try simp only [List.drop_nil])
    have d0 := cellAt (o := 0) HX1.out rfl
    have d1 := cellAt (o := 1) HX1.out rfl
    have d2 := cellAt (o := 2) HX1.out rfl
    have d3 := cellAt (o := 3) HX1.out rfl
    have d4 := cellAt (o := 4) HX1.out rfl
    have d5 := cellAt (o := 5) HX1.out rfl
    have d6 := cellAt (o := 6) HX1.out rfl
    have d7 := cellAt (o := 7) HX1.out rfl
    clear CO CS
    cases q
    · obtain rfl : y = 2 := HY.out
      clear HY HR2
      go_wp2_with fail
      go_ret
      exact ⟨rfl, HB1.out⟩
    by_cases h3 : 1 ≤ bt
    · by_cases h4 : bt ≤ 1099511627776
      · go_wp2_with fail
        refine (CC.out _ HB1.out).mono ?_
        rintro e w2 ⟨rfl, hb2⟩
        have HB2 := Lib.hid (HB1.out.trans (hb2.mono HB1.out.size))
        have HR3 : Hid ((!z) = r) := Lib.hid (by rw [← HR2.out, decide_eq_true ⟨h3, h4⟩, Bool.true_and])
        clear hb2 HR2
        cases z
        · obtain rfl : true = r := HR3.out
          obtain rfl : y = 0 := HY.out
          clear HY HR3
          go_wp2_with fail
          go_ret
          exact ⟨rfl, HB2.out⟩
        · obtain rfl : false = r := HR3.out
          obtain rfl : y = 2 := HY.out
          clear HY HR3
          go_wp2_with fail
          go_ret
          exact ⟨rfl, HB2.out⟩
      · obtain rfl : false = r := by rw [← HR2.out, decide_eq_false (fun h => h4 h.2)]; rfl
        obtain rfl : y = 2 := HY.out
        have h5 : decide (bt ≤ 1099511627776) = false := by simpa using h4
        clear HY HR2
        go_wp2_with fail
        go_ret
        exact ⟨rfl, HB1.out⟩
    · obtain rfl : false = r := by rw [← HR2.out, decide_eq_false (fun h => h3 h.1)]; rfl
      obtain rfl : y = 2 := HY.out
      clear HY HR2
      go_wp2_with fail
      go_ret
      exact ⟨rfl, HB1.out⟩
  have CS := Lib.hid (fun W (hb : Below w.heap.size w W) => HS.out W hb 0 0 0 0 0 ⟨#[]⟩ none none 0 0 0 0 [] [] rfl RdLb.nil_ RdCg.nil_)
  have hq := HQ.out
  have hr := HR.out
  simp only [onlyC, h1, h2, h3, if_false] at hq
  simp only [kindOk, h1, h2, h3, if_false] at hr
  simp only [List.map_nil] at CS
  rw [hq] at CS
  obtain rfl := hr
  obtain rfl : y = 2 := by rw [HY.out, Bool.and_false]; rfl
  have q1 := beq_ne h1
  have q2 := beq_ne h2
  have q3 := beq_ne h3
  have CO4 := Lib.hid (fun W => only_4 (m := m) (la := la) (ln := ln) (lc := lc) (t := t) (n := n) (tm := tm) (bt := bt) (ca := ca) (cn := cn) (cc := cc) h1 h2 h3 W)
  clear hq HS HL HG HQ HN HR CC h1 h2 h3 HY
  have CO := Lib.hid CO4.out
  go_enter Try.func15, Try.ntmps15
  go_wp2_with fail
  clear d0 d1 d2 d3 d4 d5 d6 d7
  refine wp_region_here 5 [(0, false), (1, false), (2, false), (3, false), (4, false)] (fun _ => .cells #[] 0) (by kernel_rfl) (by kernel_rfl) ?_
  repeat (first | (refine wpP_q rfl rfl rfl ?_; apply Exists.intro; refine ⟨fun w' hw' => ?_, fun K hK => ?_⟩; (focus ((have d0 := cellAt (o := 0) (keepB HX.out hw') rfl; have d1 := cellAt (o := 1) (keepB HX.out hw') rfl; have d2 := cellAt (o := 2) (keepB HX.out hw') rfl; have d3 := cellAt (o := 3) (keepB HX.out hw') rfl; have d4 := cellAt (o := 4) (keepB HX.out hw') rfl; have d5 := cellAt (o := 5) (keepB HX.out hw') rfl; have d6 := cellAt (o := 6) (keepB HX.out hw') rfl; have d7 := cellAt (o := 7) (keepB HX.out hw') rfl); go_simp; first | exact quiet_value | first | with_reducible exact quiet_enter (CO.out _) | with_reducible exact quiet_enter (CS.out _ (HB.out.trans (hw'.mono HB.out.size))))); simp only [Act.put, List.setIfInBounds_toArray, List.set_cons_zero, List.set_cons_succ]; refine hK.out _ ?_; clear hK K) | (refine wpP_skip rfl rfl rfl (fun K hK => ?_); simp only [Act.put, List.setIfInBounds_toArray, List.set_cons_zero, List.set_cons_succ]; refine hK.out _ ?_; clear hK K))
  refine wpP_nil ?_
  intro w1 hb1
  have HB1 := Lib.hid (HB.out.trans (hb1.mono HB.out.size))
  have HX1 := Lib.hid (keepB HX.out hb1)
  clear hb1
  (try simp only [List.drop_succ_cons]); (try simp only [List.drop_zero]); (try simp only [List.drop_nil])
  have d0 := cellAt (o := 0) HX1.out rfl
  have d1 := cellAt (o := 1) HX1.out rfl
  have d2 := cellAt (o := 2) HX1.out rfl
  have d3 := cellAt (o := 3) HX1.out rfl
  have d4 := cellAt (o := 4) HX1.out rfl
  have d5 := cellAt (o := 5) HX1.out rfl
  have d6 := cellAt (o := 6) HX1.out rfl
  have d7 := cellAt (o := 7) HX1.out rfl
  go_wp2_with fail
  go_ret
  exact ⟨rfl, HB1.out⟩
end Go.Proofs.Ytjnkcgegmffncaa
