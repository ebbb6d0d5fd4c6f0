/- Changes: whether they may be; compared; cloned. -/
import Derived.Test.YtjnkcgegmffncaaLgt
namespace Go.Proofs.Ytjnkcgegmffncaa
open Go.RowKit
/-! ### number.Check -/
def chk (n : Int) (o : Bool) : Int := if o = true ∧ n ≠ 0 then 2 else 0
theorem check_any (n : Int) (o : Bool) (w : World) :
    Calls Try.prog 49 #[.agg #[.int .i64 n, .bool o]] w fun e w' => e = .returned (.int .i64 (chk n o)) ∧ Below w.heap.size w w' := by
  obtain ⟨x, hx⟩ : ∃ x, chk n o = x := ⟨_, rfl⟩
  rw [hx]
  cases o
  · obtain rfl : 0 = x := by rw [← hx]; simp [chk]
    clear hx
    go_enter Try.func49, Try.ntmps49
    go_wp2
    go_ret
    exact ⟨rfl, (Below.refl _ _).alloc (Nat.le_refl _) _⟩
  · by_cases h : n = 0
    · obtain rfl : 0 = x := by rw [← hx]; simp [chk, h]
      subst h
      clear hx
      go_enter Try.func49, Try.ntmps49
      go_wp2
      go_ret
      exact ⟨rfl, (Below.refl _ _).alloc (Nat.le_refl _) _⟩
    · obtain rfl : 2 = x := by rw [← hx]; simp [chk, h]
      have h' : (n != 0) = true := by simpa using h
      clear hx
      go_enter Try.func49, Try.ntmps49
      go_wp2
      go_ret
      exact ⟨rfl, (Below.refl _ _).alloc (Nat.le_refl _) _⟩
/-! ### group.CheckChange -/
/-- A change: its labels; number; over; gone. -/
abbrev Ch := List Lb × Int × Bool × Bool
abbrev cgC (x : Cg) : Ch := (x.1.2.2, x.2)
/-- What group.CheckChange tells. -/
def chgE (x : Ch) : Int := if labE x.1 = 0 then (if chk x.2.1 x.2.2.1 ≠ 0 ∨ (x.2.2.2 = true ∧ ¬ (x.2.1 = 0 ∧ x.2.2.1 = false)) then 2 else 0) else labE x.1
set_option maxHeartbeats 4000000 in
set_option maxRecDepth 100000 in
theorem cchg_any {A : Option Addr} {c n : Nat} {L : List Lb} {k : Int} {ov gn : Bool} {w : World} (hn : L.length = n) (h : RdLb w A L) : Calls Try.prog 31 #[.agg #[.slice A n c, .int .i64 k, .bool ov, .bool gn]] w fun e w' => e = .returned (.int .i64 (chgE (L, k, ov, gn))) ∧ Below w.heap.size w w' := by
  have HB := Lib.hid (below_alloc (Below.refl w.heap.size w) (.cells #[.slice A n c, .int .i64 k, .bool ov, .bool gn] 71))
  have HX := Lib.hid (newB w (.cells #[.slice A n c, .int .i64 k, .bool ov, .bool gn] 71))
  have CL := Lib.hid (lcheck_n (c := c) hn (h.below HB.out))
  have CV := Lib.hid (fun W => check_any k ov W)
  have d0 := cellAt (o := 0) HX.out rfl
  have d1 := cellAt (o := 1) HX.out rfl
  have d2 := cellAt (o := 2) HX.out rfl
  have d3 := cellAt (o := 3) HX.out rfl
  obtain ⟨x, hx⟩ : ∃ x, labE L = x := ⟨_, rfl⟩
  obtain ⟨v, hv⟩ : ∃ x, chk k ov = x := ⟨_, rfl⟩
  obtain ⟨y, hy⟩ : ∃ x, chgE (L, k, ov, gn) = x := ⟨_, rfl⟩
  rw [hx] at CL
  rw [hv] at CV
  rw [hy]
  unfold chgE at hy
  simp only at hy
  rw [hx, hv] at hy
  have HY := Lib.hid hy
  have HV := Lib.hid hv
  clear hn h hx hv hy
  go_enter Try.func31, Try.ntmps31
  go_wp2_with fail
  refine CL.out.mono ?_
  rintro e w1 ⟨rfl, hb1⟩
  have HB1 := Lib.hid (HB.out.trans (hb1.mono HB.out.size))
  have HX1 := Lib.hid (keepB HX.out hb1)
  clear hb1 d0 d1 d2 d3
  have d1 := cellAt (o := 1) HX1.out rfl
  have d2 := cellAt (o := 2) HX1.out rfl
  have d3 := cellAt (o := 3) HX1.out rfl
  by_cases h0 : x = 0
  · subst h0
    have hy := HY.out
    rw [if_pos rfl] at hy
    go_wp2_with fail
    refine (CV.out _).mono ?_
    rintro e w2 ⟨rfl, hb2⟩
    have HB2 := Lib.hid (HB1.out.trans (hb2.mono HB1.out.size))
    have HX2 := Lib.hid (keepB HX1.out hb2)
    clear hb2 d1 d2 d3
    have d1 := cellAt (o := 1) HX2.out rfl
    have d2 := cellAt (o := 2) HX2.out rfl
    have d3 := cellAt (o := 3) HX2.out rfl
    by_cases hv0 : v = 0
    · subst hv0
      cases gn
      · obtain rfl : 0 = y := by rw [← hy]; simp
        clear hy HY HV
        go_wp2_with fail
        go_ret
        exact ⟨rfl, HB2.out⟩
      · by_cases hk : k = 0
        · subst hk
          cases ov
          · obtain rfl : 0 = y := by rw [← hy]; simp
            clear hy HY HV
            go_wp2_with fail
            go_ret
            exact ⟨rfl, HB2.out⟩
          · obtain rfl : 2 = y := by rw [← hy]; simp
            clear hy HY HV
            go_wp2_with fail
            go_ret
            exact ⟨rfl, HB2.out⟩
        · obtain rfl : 2 = y := by rw [← hy]; simp [hk]
          have hk0 : (k == 0) = false := by simpa using hk
          clear hy HY HV
          go_wp2_with fail
          go_ret
          exact ⟨rfl, HB2.out⟩
    · obtain rfl : 2 = y := by rw [← hy]; simp [hv0]
      have hv1 : (v == 0) = false := by simpa using hv0
      clear hy HY HV
      go_wp2_with fail
      go_ret
      exact ⟨rfl, HB2.out⟩
  · obtain rfl : x = y := by rw [← HY.out, if_neg h0]
    have hx0 : (x == 0) = false := by simpa using h0
    go_wp2_with fail
    go_ret
    exact ⟨rfl, HB1.out⟩
/-! ### Changes compared -/
abbrev chV (x : Cg) : Value := .agg #[lsV x.1, .int .i64 x.2.1, .bool x.2.2.1, .bool x.2.2.2]
def eqC (x y : Ch) : Bool := decide (x = y)
theorem same_any {A B : Option Addr} {c d n m : Nat} {L M : List Lb} {k1 k2 : Int} {o1 o2 g1 g2 : Bool} {w : World} (hn : L.length = n) (hm : M.length = m) (h1 : RdLb w A L) (h2 : RdLb w B M) (hl : n ≤ 1000000) :
    Calls Try.prog 34 #[.agg #[.slice A n c, .int .i64 k1, .bool o1, .bool g1], .agg #[.slice B m d, .int .i64 k2, .bool o2, .bool g2]] w fun e w' => e = .returned (.bool (eqC (L, k1, o1, g1) (M, k2, o2, g2))) ∧ Below w.heap.size w w' := by
  have HB := Lib.hid (below_alloc (below_alloc (Below.refl w.heap.size w) (.cells #[.slice A n c, .int .i64 k1, .bool o1, .bool g1] 71)) (.cells #[.slice B m d, .int .i64 k2, .bool o2, .bool g2] 71))
  have HX := Lib.hid (keepA (newB w (.cells #[.slice A n c, .int .i64 k1, .bool o1, .bool g1] 71)) (.cells #[.slice B m d, .int .i64 k2, .bool o2, .bool g2] 71))
  have HY := Lib.hid (newB (w.alloc (.cells #[.slice A n c, .int .i64 k1, .bool o1, .bool g1] 71)) (.cells #[.slice B m d, .int .i64 k2, .bool o2, .bool g2] 71))
  rw [alloc_size] at HY
  have CL := Lib.hid (equal_lbs (c := c) (d := d) hn hm (h1.below HB.out) (h2.below HB.out) hl)
  have d0 := cellAt (o := 0) HX.out rfl
  have e0 := cellAt (o := 0) HY.out rfl
  obtain ⟨b, hb⟩ : ∃ x, eqL L M = x := ⟨_, rfl⟩
  obtain ⟨y, hy⟩ : ∃ x, eqC (L, k1, o1, g1) (M, k2, o2, g2) = x := ⟨_, rfl⟩
  have hq : y = (b && (decide (k1 = k2) && (decide (o1 = o2) && decide (g1 = g2)))) := by
    rw [← hy, ← hb]
    unfold eqC eqL
    simp only [Prod.mk.injEq, Bool.decide_and]
  rw [hb] at CL
  rw [hy]
  have HQ := Lib.hid hq
  clear hn hm h1 h2 hb hy hq
  go_enter Try.func34, Try.ntmps34
  go_wp2_with fail
  refine CL.out.mono ?_
  rintro e w1 ⟨rfl, hb1⟩
  have HB1 := Lib.hid (HB.out.trans (hb1.mono HB.out.size))
  have d1 := cellAt (o := 1) (keepB HX.out hb1) rfl
  have d2 := cellAt (o := 2) (keepB HX.out hb1) rfl
  have d3 := cellAt (o := 3) (keepB HX.out hb1) rfl
  have e1 := cellAt (o := 1) (keepB HY.out hb1) rfl
  have e2 := cellAt (o := 2) (keepB HY.out hb1) rfl
  have e3 := cellAt (o := 3) (keepB HY.out hb1) rfl
  clear hb1 d0 e0
  cases b
  · obtain rfl : y = false := HQ.out
    clear HQ
    go_wp2_with fail
    go_ret
    exact ⟨rfl, HB1.out⟩
  · by_cases hk : k1 = k2
    · subst hk
      have hq := HQ.out
      rw [decide_eq_true (rfl : k1 = k1), Bool.true_and, Bool.true_and] at hq
      clear HQ
      cases o1 <;> cases o2 <;> cases g1 <;> cases g2
      all_goals
        first | (obtain rfl : y = true := hq) | (obtain rfl : y = false := hq)
        try clear hq
        go_wp2_with fail
        go_ret
        exact ⟨rfl, HB1.out⟩
    · obtain rfl : y = false := by rw [HQ.out, decide_eq_false hk]; rfl
      have hk2 : (k1 == k2) = false := by simpa using hk
      clear HQ hk
      go_wp2_with fail
      go_ret
      exact ⟨rfl, HB1.out⟩
/-- slices.EqualFunc of changes. -/
theorem RdCg.some2 {w : World} {A : Option Addr} {n : Nat} {L : List Cg} (h : RdCg w A n L) {k : Nat} (hk : k < n) : ∃ ad x, A = some ad ∧ L[k]? = some x ∧ ad.block < w.heap.size := by
  obtain ⟨ad, e, hb⟩ := h.some_ (by omega)
  exact ⟨ad, L[k]'(by rw [h.1]; exact hk), e, List.getElem?_eq_getElem _, hb⟩
set_option maxHeartbeats 4000000 in
set_option maxRecDepth 100000 in
theorem equalF_any {A B : Option Addr} {c d n m : Nat} {L M : List Cg} {w : World} (h1 : RdCg w A n L) (h2 : RdCg w B m M) (hl : n ≤ 1000000) (hL : ∀ x ∈ L, x.1.2.2.length ≤ 1000000) :
    Calls Try.prog 33 #[.slice A n c, .slice B m d, .func (.func 34) #[] #[]] w fun e w' => e = .returned (.bool (decide (L.map cgC = M.map cgC))) ∧ Below w.heap.size w w' := by
  obtain ⟨b, hb⟩ : ∃ b, decide (L.map cgC = M.map cgC) = b := ⟨_, rfl⟩
  rw [hb]
  have HB := Lib.hid hb
  have H1 := Lib.hid h1
  have H2 := Lib.hid h2
  have HL := Lib.hid hL
  clear hb h1 h2 hL
  by_cases hnm : n = m
  · subst hnm
    go_enter Try.func33, Try.ntmps33
    go_wp2_with fail
    go_loopw [17] (fun v wr => ∃ k : Nat, v = .int .i64 (k : Int) ∧ k ≤ n ∧ Hid ((L.map cgC).take k = (M.map cgC).take k) ∧ Hid (Below w.heap.size w wr)) (fun v _ => n - (intOf v).toNat)
    case atStart => exact ⟨0, rfl, Nat.zero_le _, Lib.hid rfl, Lib.hid (Below.refl _ _)⟩
    case round =>
      obtain ⟨k, rfl, hk, HT, HBr⟩ := hrel
      by_cases h0 : k < n
      · have hkL : k < L.length := by rw [H1.out.1]; exact h0
        have hkM : k < M.length := by rw [H2.out.1]; exact h0
        obtain ⟨a1, rfl, _⟩ := H1.out.some_ (by omega)
        obtain ⟨a2, rfl, _⟩ := H2.out.some_ (by omega)
        obtain ⟨c0, c1, c2, c3⟩ := (H1.out.below HBr.out).at_ hkL
        have HR1 := Lib.hid ((H1.out.below HBr.out).2.2 _ (List.getElem_mem hkL))
        have HR2 := Lib.hid ((H2.out.below HBr.out).2.2 _ (List.getElem_mem hkM))
        have HLx := Lib.hid (HL.out _ (List.getElem_mem hkL))
        obtain ⟨⟨⟨xa, xc, xl⟩, xn, xo, xg⟩, hx⟩ : ∃ x, L[k] = x := ⟨_, rfl⟩
        obtain ⟨⟨⟨ya, yc, yl⟩, yn, yo, yg⟩, hy⟩ : ∃ x, M[k] = x := ⟨_, rfl⟩
        rw [hx] at c0 c1 c2 c3 HR1 HLx
        rw [hy] at HR2
        simp only [lsV] at c0 c1 c2 c3 HR1 HR2 HLx
        have HLt : Hid ((L.map cgC).take (k + 1) = (L.map cgC).take k ++ [(xl, xn, xo, xg)]) := Lib.hid (by
          rw [← List.take_append_getElem (show k < (L.map cgC).length by simpa using hkL)]
          simp [hx, cgC])
        have HMt : Hid ((M.map cgC).take (k + 1) = (M.map cgC).take k ++ [(yl, yn, yo, yg)]) := Lib.hid (by
          rw [← List.take_append_getElem (show k < (M.map cgC).length by simpa using hkM)]
          simp [hy, cgC])
        have HXY : Hid (b = true → (xl, xn, xo, xg) = (yl, yn, yo, yg)) := Lib.hid (fun e => by
          have e2 : L.map cgC = M.map cgC := by have := HB.out; rw [e] at this; simpa using this
          have h3 : (L.map cgC)[k]? = (M.map cgC)[k]? := by rw [e2]
          rw [List.getElem?_map, List.getElem?_map, List.getElem?_eq_getElem hkL, List.getElem?_eq_getElem hkM, hx, hy] at h3
          simpa [cgC] using h3)
        have hw : IntKind.i64.wrap ((k : Int) + 1) = ((k + 1 : Nat) : Int) := by rw [IntKind.wrap_i64]; omega
        have hkI : (k : Int) < (n : Int) := by omega
        obtain ⟨xm, hxm⟩ : ∃ j, xl.length = j := ⟨_, rfl⟩
        obtain ⟨ym, hym⟩ : ∃ j, yl.length = j := ⟨_, rfl⟩
        rw [hxm] at c0
        obtain ⟨e0, e1, e2, e3⟩ := (H2.out.below (below_alloc HBr.out (.cells #[.slice xa xm xc, .int .i64 xn, .bool xo, .bool xg] 71))).at_ hkM
        rw [hy] at e0 e1 e2 e3
        simp only [lsV] at e0 e1 e2 e3
        rw [hym] at e0
        have HA := Lib.hid (below_alloc (below_alloc (Below.refl wr.heap.size wr) (.cells #[.slice xa xm xc, .int .i64 xn, .bool xo, .bool xg] 71)) (.cells #[.slice ya ym yc, .int .i64 yn, .bool yo, .bool yg] 71))
        have CS := Lib.hid (same_any (c := xc) (d := yc) (k1 := xn) (k2 := yn) (o1 := xo) (o2 := yo) (g1 := xg) (g2 := yg) hxm hym (RdLb.below HR1.out HA.out) (RdLb.below HR2.out HA.out) (by rw [← hxm]; exact HLx.out))
        have HXm := Lib.hid hxm
        clear hkL hkM hx hy hxm hym
        obtain ⟨q, hq⟩ : ∃ q, eqC (xl, xn, xo, xg) (yl, yn, yo, yg) = q := ⟨_, rfl⟩
        rw [hq] at CS
        have HQ := Lib.hid hq
        clear hq
        go_wp2_with fail
        refine CS.out.mono ?_
        rintro e w1 ⟨rfl, hb1⟩
        have HB1 := Lib.hid (HBr.out.trans ((HA.out.trans (hb1.mono HA.out.size)).mono HBr.out.size))
        clear hb1 c0 c1 c2 c3 e0 e1 e2 e3
        cases q
        · obtain rfl : b = false := by
            cases b
            · rfl
            · have := HQ.out; rw [HXY.out rfl] at this; simp [eqC] at this
          go_wp2_with fail
          go_ret
          exact ⟨rfl, HB1.out⟩
        · have HE : Hid ((xl, xn, xo, xg) = (yl, yn, yo, yg)) := Lib.hid (by have := HQ.out; unfold eqC at this; exact of_decide_eq_true this)
          go_wp2_with fail
          go_roundw
          case rel => exact ⟨k + 1, by go_num, by omega, Lib.hid (by rw [HLt.out, HMt.out, HT.out, HE.out]), HB1⟩
          case measure => simp [intOf]; omega
      · obtain rfl : b = true := by
          rw [← HB.out]
          have := HT.out
          rw [List.take_of_length_le (by rw [List.length_map, H1.out.1]; omega), List.take_of_length_le (by rw [List.length_map, H2.out.1]; omega)] at this
          exact decide_eq_true this
        have hkI : ¬ (k : Int) < (n : Int) := by omega
        go_wp2_with fail
        go_ret
        exact ⟨rfl, HBr.out⟩
  · obtain rfl : b = false := by
      rw [← HB.out]
      refine decide_eq_false (fun e => hnm ?_)
      have := congrArg List.length e
      rw [List.length_map, List.length_map, H1.out.1, H2.out.1] at this; exact this
    have hnI : ((n : Int) == (m : Int)) = false := by simp; omega
    go_enter Try.func33, Try.ntmps33
    go_wp2_with fail
    go_ret
    exact ⟨rfl, Below.refl _ _⟩
end Go.Proofs.Ytjnkcgegmffncaa
