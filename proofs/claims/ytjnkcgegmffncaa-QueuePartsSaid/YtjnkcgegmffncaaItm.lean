/- Items: compared; whether they may be. -/
import Derived.Test.YtjnkcgegmffncaaChk
import Derived.BigGuard
namespace Go.Proofs.Ytjnkcgegmffncaa
open Go.RowKit
/-- What an item is: its kind; metric, labels, time, number; time; time, changes. -/
abbrev ItC := Int × ByteArray × List Lb × Int × Int × Int × Int × List Ch
/-- What queue.only leaves. -/
def onlyC (x : ItC) : ItC :=
  if x.1 = 1 then (x.1, x.2.1, x.2.2.1, x.2.2.2.1, x.2.2.2.2.1, 0, 0, [])
  else if x.1 = 2 then (x.1, ByteArray.mk #[], [], 0, 0, x.2.2.2.2.2.1, 0, [])
  else if x.1 = 3 then (x.1, ByteArray.mk #[], [], 0, 0, 0, x.2.2.2.2.2.2.1, x.2.2.2.2.2.2.2)
  else (0, ByteArray.mk #[], [], 0, 0, 0, 0, [])
def eqI (x y : ItC) : Bool := decide (x.1 = y.1) && (decide (x.2.1 = y.2.1) && (eqL x.2.2.1 y.2.2.1 && (decide (x.2.2.2.1 = y.2.2.2.1) && (decide (x.2.2.2.2.1 = y.2.2.2.2.1) && (decide (x.2.2.2.2.2.1 = y.2.2.2.2.2.1) && (decide (x.2.2.2.2.2.2.1 = y.2.2.2.2.2.2.1) && decide (x.2.2.2.2.2.2.2 = y.2.2.2.2.2.2.2)))))))
theorem eqI_iff {x y : ItC} : eqI x y = true ↔ x = y := by
  obtain ⟨k, m, L, t, n, tm, bt, C⟩ := x
  obtain ⟨k', m', L', t', n', tm', bt', C'⟩ := y
  simp only [eqI, eqL, Bool.and_eq_true, decide_eq_true_eq, Prod.mk.injEq]
/-- The value that queue.only returns. -/
def onlyV (k : Int) (m : ByteArray) (la : Option Addr) (ln lc : Nat) (t n tm bt : Int) (ca : Option Addr) (cn cc : Nat) : Value :=
  if k = 1 then .agg #[.int .i64 k, .string m, .slice la ln lc, .int .i64 t, .int .i64 n, .int .i64 0, .int .i64 0, .slice none 0 0]
  else if k = 2 then .agg #[.int .i64 k, .string ⟨#[]⟩, .slice none 0 0, .int .i64 0, .int .i64 0, .int .i64 tm, .int .i64 0, .slice none 0 0]
  else if k = 3 then .agg #[.int .i64 k, .string ⟨#[]⟩, .slice none 0 0, .int .i64 0, .int .i64 0, .int .i64 0, .int .i64 bt, .slice ca cn cc]
  else .agg #[.int .i64 0, .string ⟨#[]⟩, .slice none 0 0, .int .i64 0, .int .i64 0, .int .i64 0, .int .i64 0, .slice none 0 0]
set_option maxHeartbeats 2000000 in
set_option maxRecDepth 100000 in
theorem only_any {k t n tm bt : Int} {m : ByteArray} {la ca : Option Addr} {ln lc cn cc : Nat} {w : World} : Calls Try.prog 27 #[.agg #[.int .i64 k, .string m, .slice la ln lc, .int .i64 t, .int .i64 n, .int .i64 tm, .int .i64 bt, .slice ca cn cc]] w fun e w' => e = .returned (onlyV k m la ln lc t n tm bt ca cn cc) ∧ Below w.heap.size w w' := by
  obtain ⟨v, hv⟩ : ∃ v, onlyV k m la ln lc t n tm bt ca cn cc = v := ⟨_, rfl⟩
  rw [hv]
  unfold onlyV at hv
  by_cases h1 : k = 1
  · rw [if_pos h1] at hv
    subst h1 hv
    go_enter Try.func27, Try.ntmps27
    go_wp2_with fail
    refine bodyPost_ret (v := .agg #[.int .i64 1, .string m, .slice la ln lc, .int .i64 t, .int .i64 n, .int .i64 0, .int .i64 0, .slice none 0 0]) (by simp only [results, Try.results27]; go_simp) rfl ⟨rfl, ?_⟩
    exact below_alloc (below_alloc (Below.refl _ _) _) _
  rw [if_neg h1] at hv
  have q1 : (k == 1) = false := by simpa using h1
  by_cases h2 : k = 2
  · rw [if_pos h2] at hv
    subst h2 hv
    clear h1 q1
    go_enter Try.func27, Try.ntmps27
    go_wp2_with fail
    refine bodyPost_ret (v := .agg #[.int .i64 2, .string ⟨#[]⟩, .slice none 0 0, .int .i64 0, .int .i64 0, .int .i64 tm, .int .i64 0, .slice none 0 0]) (by simp only [results, Try.results27]; go_simp) rfl ⟨rfl, ?_⟩
    exact below_alloc (below_alloc (Below.refl _ _) _) _
  rw [if_neg h2] at hv
  have q2 : (k == 2) = false := by simpa using h2
  by_cases h3 : k = 3
  · rw [if_pos h3] at hv
    subst h3 hv
    clear h1 q1 h2 q2
    go_enter Try.func27, Try.ntmps27
    go_wp2_with fail
    refine bodyPost_ret (v := .agg #[.int .i64 3, .string ⟨#[]⟩, .slice none 0 0, .int .i64 0, .int .i64 0, .int .i64 0, .int .i64 bt, .slice ca cn cc]) (by simp only [results, Try.results27]; go_simp) rfl ⟨rfl, ?_⟩
    exact below_alloc (below_alloc (Below.refl _ _) _) _
  rw [if_neg h3] at hv
  have q3 : (k == 3) = false := by simpa using h3
  subst hv
  clear h1 h2 h3
  go_enter Try.func27, Try.ntmps27
  go_wp2_with fail
  refine bodyPost_ret (v := .agg #[.int .i64 0, .string ⟨#[]⟩, .slice none 0 0, .int .i64 0, .int .i64 0, .int .i64 0, .int .i64 0, .slice none 0 0]) (by simp only [results, Try.results27]; go_simp) rfl ⟨rfl, ?_⟩
  exact below_alloc (below_alloc (Below.refl _ _) _) _
theorem beq_ne {a b : Int} (h : a ≠ b) : (a == b) = false := by simpa using h
set_option maxHeartbeats 8000000 in
set_option maxRecDepth 100000 in
theorem sameI_any {k1 t1 n1 tm1 bt1 : Int} {m1 : ByteArray} {la1 ca1 : Option Addr} {ln1 lc1 cn1 cc1 : Nat} {L1 : List Lb} {C1 : List Cg} {k2 t2 n2 tm2 bt2 : Int} {m2 : ByteArray} {la2 ca2 : Option Addr} {ln2 lc2 cn2 cc2 : Nat} {L2 : List Lb} {C2 : List Cg} {w : World} (hn1 : L1.length = ln1) (hn2 : L2.length = ln2) (h1 : RdLb w la1 L1) (h2 : RdLb w la2 L2) (g1 : RdCg w ca1 cn1 C1) (g2 : RdCg w ca2 cn2 C2) (hl1 : ln1 ≤ 1000000) (hl2 : cn1 ≤ 1000000) (hl3 : ∀ x ∈ C1, x.1.2.2.length ≤ 1000000) :
    Calls Try.prog 18 #[.agg #[.int .i64 k1, .string m1, .slice la1 ln1 lc1, .int .i64 t1, .int .i64 n1, .int .i64 tm1, .int .i64 bt1, .slice ca1 cn1 cc1], .agg #[.int .i64 k2, .string m2, .slice la2 ln2 lc2, .int .i64 t2, .int .i64 n2, .int .i64 tm2, .int .i64 bt2, .slice ca2 cn2 cc2]] w fun e w' => e = .returned (.bool (eqI (k1, m1, L1, t1, n1, tm1, bt1, C1.map cgC) (k2, m2, L2, t2, n2, tm2, bt2, C2.map cgC))) ∧ Below w.heap.size w w' := by
  have HB := Lib.hid (below_alloc (below_alloc (Below.refl w.heap.size w) (.cells #[.int .i64 k1, .string m1, .slice la1 ln1 lc1, .int .i64 t1, .int .i64 n1, .int .i64 tm1, .int .i64 bt1, .slice ca1 cn1 cc1] 38)) (.cells #[.int .i64 k2, .string m2, .slice la2 ln2 lc2, .int .i64 t2, .int .i64 n2, .int .i64 tm2, .int .i64 bt2, .slice ca2 cn2 cc2] 38))
  have HX := Lib.hid (keepA (newB w (.cells #[.int .i64 k1, .string m1, .slice la1 ln1 lc1, .int .i64 t1, .int .i64 n1, .int .i64 tm1, .int .i64 bt1, .slice ca1 cn1 cc1] 38)) (.cells #[.int .i64 k2, .string m2, .slice la2 ln2 lc2, .int .i64 t2, .int .i64 n2, .int .i64 tm2, .int .i64 bt2, .slice ca2 cn2 cc2] 38))
  have HY := Lib.hid (newB (w.alloc (.cells #[.int .i64 k1, .string m1, .slice la1 ln1 lc1, .int .i64 t1, .int .i64 n1, .int .i64 tm1, .int .i64 bt1, .slice ca1 cn1 cc1] 38)) (.cells #[.int .i64 k2, .string m2, .slice la2 ln2 lc2, .int .i64 t2, .int .i64 n2, .int .i64 tm2, .int .i64 bt2, .slice ca2 cn2 cc2] 38))
  rw [alloc_size] at HY
  have CL := Lib.hid (equal_lbs (c := lc1) (d := lc2) hn1 hn2 (h1.below HB.out) (h2.below HB.out) hl1)
  have CF := Lib.hid (fun W (hb : Below w.heap.size w W) => equalF_any (c := cc1) (d := cc2) (g1.below hb) (g2.below hb) hl2 hl3)
  obtain ⟨b, hb⟩ : ∃ x, eqL L1 L2 = x := ⟨_, rfl⟩
  obtain ⟨q, hq⟩ : ∃ x, decide (C1.map cgC = C2.map cgC) = x := ⟨_, rfl⟩
  obtain ⟨y, hy⟩ : ∃ x, eqI (k1, m1, L1, t1, n1, tm1, bt1, C1.map cgC) (k2, m2, L2, t2, n2, tm2, bt2, C2.map cgC) = x := ⟨_, rfl⟩
  have hY : y = (decide (k1 = k2) && (decide (m1 = m2) && (b && (decide (t1 = t2) && (decide (n1 = n2) && (decide (tm1 = tm2) && (decide (bt1 = bt2) && q))))))) := by
    rw [← hy, ← hb, ← hq]; rfl
  rw [hb] at CL
  rw [hq] at CF
  rw [hy]
  have HQ := Lib.hid hY
  have c0 := cellAt (o := 0) HX.out rfl
  have c1 := cellAt (o := 1) HX.out rfl
  have c2 := cellAt (o := 2) HX.out rfl
  have e0 := cellAt (o := 0) HY.out rfl
  have e1 := cellAt (o := 1) HY.out rfl
  have e2 := cellAt (o := 2) HY.out rfl
  clear hn1 hn2 h1 h2 g1 g2 hl1 hl2 hl3 hb hq hy hY
  by_cases hk : k1 = k2
  case neg =>
    have hk2 := beq_ne hk
    obtain rfl : y = false := by rw [HQ.out, decide_eq_false hk]; rfl
    clear HQ hk
    go_enter Try.func18, Try.ntmps18
    simp only [List.append_eq, List.cons_append, List.nil_append]
    go_wp2_with fail
    go_ret
    exact ⟨rfl, HB.out⟩
  subst hk
  by_cases hm : m1 = m2
  case neg =>
    have hm2 := toList_ne hm
    obtain rfl : y = false := by rw [HQ.out, decide_eq_false hm]; simp
    clear HQ hm
    go_enter Try.func18, Try.ntmps18
    simp only [List.append_eq, List.cons_append, List.nil_append]
    go_wp2_with fail
    go_ret
    exact ⟨rfl, HB.out⟩
  subst hm
  go_enter Try.func18, Try.ntmps18
  simp only [List.append_eq, List.cons_append, List.nil_append]
  go_wp2_with fail
  refine CL.out.mono ?_
  rintro e w1 ⟨rfl, hb1⟩
  have HB1 := Lib.hid (HB.out.trans (hb1.mono HB.out.size))
  have HX1 := Lib.hid (keepB HX.out hb1)
  have HY1 := Lib.hid (keepB HY.out hb1)
  clear hb1 c0 c1 c2 e0 e1 e2 CL HX HY
  have c3 := cellAt (o := 3) HX1.out rfl
  have c4 := cellAt (o := 4) HX1.out rfl
  have c5 := cellAt (o := 5) HX1.out rfl
  have c6 := cellAt (o := 6) HX1.out rfl
  have c7 := cellAt (o := 7) HX1.out rfl
  have e3 := cellAt (o := 3) HY1.out rfl
  have e4 := cellAt (o := 4) HY1.out rfl
  have e5 := cellAt (o := 5) HY1.out rfl
  have e6 := cellAt (o := 6) HY1.out rfl
  have e7 := cellAt (o := 7) HY1.out rfl
  cases b
  · obtain rfl : y = false := by rw [HQ.out]; simp
    clear HQ
    go_wp2_with fail
    go_ret
    exact ⟨rfl, HB1.out⟩
  have HQ2 : Hid (y = (decide (t1 = t2) && (decide (n1 = n2) && (decide (tm1 = tm2) && (decide (bt1 = bt2) && q))))) := Lib.hid (by rw [HQ.out]; simp)
  clear HQ
  by_cases ht : t1 = t2
  case neg =>
    have ht2 := beq_ne ht
    obtain rfl : y = false := by rw [HQ2.out, decide_eq_false ht]; simp
    clear HQ2 ht
    go_wp2_with fail
    go_ret
    exact ⟨rfl, HB1.out⟩
  subst ht
  by_cases hn : n1 = n2
  case neg =>
    have hn2 := beq_ne hn
    obtain rfl : y = false := by rw [HQ2.out, decide_eq_false hn]; simp
    clear HQ2 hn
    go_wp2_with fail
    go_ret
    exact ⟨rfl, HB1.out⟩
  subst hn
  by_cases htm : tm1 = tm2
  case neg =>
    have htm2 := beq_ne htm
    obtain rfl : y = false := by rw [HQ2.out, decide_eq_false htm]; simp
    clear HQ2 htm
    go_wp2_with fail
    go_ret
    exact ⟨rfl, HB1.out⟩
  subst htm
  by_cases hbt : bt1 = bt2
  case neg =>
    have hbt2 := beq_ne hbt
    obtain rfl : y = false := by rw [HQ2.out, decide_eq_false hbt]; simp
    clear HQ2 hbt
    go_wp2_with fail
    go_ret
    exact ⟨rfl, HB1.out⟩
  subst hbt
  obtain rfl : y = q := by rw [HQ2.out]; simp
  clear HQ2
  go_wp2_with fail
  refine (CF.out _ HB1.out).mono ?_
  rintro e w2 ⟨rfl, hb2⟩
  have HB2 := Lib.hid (HB1.out.trans (hb2.mono HB1.out.size))
  clear hb2 c3 c4 c5 c6 c7 e3 e4 e5 e6 e7
  go_wp2_with fail
  go_ret
  exact ⟨rfl, HB2.out⟩
end Go.Proofs.Ytjnkcgegmffncaa
