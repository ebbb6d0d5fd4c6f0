/- A bag in memory: find, Count, Place. -/
import Derived.Test.YtjcbikkihijkiaaBgU
namespace Go.Proofs.Ytjcbikkihijkiaa
open Go.RowKit
theorem pv_inj {p q : Option Nat} (h : pv p = pv q) : p = q := by
  cases p <;> cases q <;> simp_all [pv, pq]
/-- A tree in memory is one tree. -/
theorem TreeW.det : ∀ {T T' : Tr} {w : World} {F F' : Nat → Prop} {p : Option Nat}, TreeW w F p T → TreeW w F' p T' → T.cnt = T'.cnt
  | .nil, .nil, _, _, _, _, _, _ => rfl
  | .nil, .node _ _ _ _, _, _, _, _, h, ⟨_, _, _, _, _, h1, _⟩ => by rw [show _ = none from h] at h1; cases h1
  | .node _ _ _ _, .nil, _, _, _, _, ⟨_, _, _, _, _, h1, _⟩, h => by rw [show _ = none from h] at h1; cases h1
  | .node _ _ l r, .node _ _ l' r', w, _, _, _, ⟨b, pl, pr, _, _, h1, _, h3, h4, h5, _⟩, ⟨b', pl', pr', _, _, g1, _, g3, g4, g5, _⟩ => by
    rw [h1] at g1
    cases g1
    unfold NodeW at h3 g3
    rw [h3] at g3
    simp only [Option.some.injEq, Obj.cells.injEq, Array.mk.injEq, List.cons.injEq, and_true] at g3
    obtain rfl := pv_inj g3.2.2.2.2.1
    obtain rfl := pv_inj g3.2.2.2.2.2
    simp only [Tr.cnt, h4.det g4, h5.det g5]
open Classical in
/-- How many nodes lie behind a pointer. -/
noncomputable def nodesAt (w : World) (v : Value) : Nat := if h : ∃ n, ∃ T F p, v = pv p ∧ TreeW w F p T ∧ n = T.cnt then h.choose else 0
theorem nodesAt_eq {w : World} {F : Nat → Prop} {p : Option Nat} {T : Tr} (h : TreeW w F p T) : nodesAt w (pv p) = T.cnt := by
  have hx : ∃ n, ∃ T F q, pv p = pv q ∧ TreeW w F q T ∧ n = T.cnt := ⟨_, T, F, p, rfl, h, rfl⟩
  unfold nodesAt
  rw [dif_pos hx]
  obtain ⟨T', F', q, e, hT, hn⟩ := hx.choose_spec
  obtain rfl := pv_inj e
  rw [hn, hT.det h]
def findT (n : Int) : Tr → Nat
  | .nil => 0
  | .node m k l r => if n = m then k else if n < m then findT n l else findT n r
def lowT (n : Int) : Tr → Nat
  | .nil => 0
  | .node m k l r => if n ≤ m then lowT n l else l.all + k + lowT n r
theorem lowT_all (n : Int) : ∀ T : Tr, lowT n T ≤ T.all
  | .nil => Nat.le_refl _
  | .node m k l r => by have := lowT_all n l; have := lowT_all n r; simp only [lowT, Tr.all]; split <;> omega
section
variable {w : World} {F : Nat → Prop} {b : Nat} {T : Tr} {o : Nat}
set_option maxHeartbeats 4000000 in
set_option maxRecDepth 100000 in
theorem bfind_any (n : Int) (h : BagT w F b T o) : Calls Try.prog 29 #[.pointer (some ⟨b, 0, none⟩), .int .i64 n] w fun e w' => e = .returned (.int .i64 (findT n T : Int)) ∧ w = w' := by
  obtain ⟨p, Ft, h1, h2, h3, h4⟩ := h
  obtain ⟨v, hv⟩ : ∃ v, pv p = v := ⟨_, rfl⟩
  have c1 := cellAt (o := 1) (v := v) h2 (hv ▸ rfl)
  have HV := Lib.hid hv.symm
  have HT := Lib.hid h3
  obtain ⟨res, hres⟩ : ∃ r, findT n T = r := ⟨_, rfl⟩
  rw [hres]
  have HR := Lib.hid hres
  clear h2 h3 h4 h1 hres hv
  go_enter Try.func29, Try.ntmps29
  go_wp2_with fail
  go_loopw [5] (fun x wr => w = wr ∧ ∃ px Fx Tx, x = pv px ∧ Hid (TreeW w Fx px Tx) ∧ Hid (findT n Tx = res)) (fun x wr => nodesAt wr x)
  case atStart => exact ⟨rfl, p, Ft, T, HV.out, HT, HR⟩
  case round =>
    obtain ⟨rfl, px, Fx, Tx, rfl, HX, HY⟩ := hrel
    cases Tx with
    | nil =>
      obtain rfl : px = none := HX.out
      obtain rfl : 0 = res := HY.out
      unfold pv pq
      go_wp2_with fail
      go_ret
      exact ⟨rfl, rfl⟩
    | node m k l r =>
      have HME := Lib.hid (nodesAt_eq HX.out)
      obtain ⟨x, pl, pr, Fl, Fr, rfl, _, hn, tl, tr, _⟩ := HX.out
      have j0 := cellAt (o := 0) hn rfl
      have j1 := cellAt (o := 1) hn rfl
      have j4 := cellAt (o := 4) hn rfl
      have j5 := cellAt (o := 5) hn rfl
      have TL := Lib.hid tl
      have TR := Lib.hid tr
      clear hn tl tr HX
      unfold pv pq
      by_cases he : n = m
      · have hy : k = res := by have := HY.out; simp only [findT] at this; rwa [if_pos he] at this
        subst he hy
        go_wp2_with fail
        go_ret
        exact ⟨rfl, rfl⟩
      · by_cases hl : n < m
        · have HY2 : Hid (findT n l = res) := Lib.hid (by have := HY.out; simp only [findT] at this; rwa [if_neg he, if_pos hl] at this)
          go_wp2_with fail
          go_roundw
          case rel => exact ⟨trivial, pl, Fl, l, rfl, TL, HY2⟩
          case measure =>  rw [nodesAt_eq TL.out]; refine Nat.lt_of_lt_of_eq ?_ HME.out.symm; simp only [Tr.cnt]; omega
        · have HY2 : Hid (findT n r = res) := Lib.hid (by have := HY.out; simp only [findT] at this; rwa [if_neg he, if_neg hl] at this)
          go_wp2_with fail
          go_roundw
          case rel => exact ⟨trivial, pr, Fr, r, rfl, TR, HY2⟩
          case measure =>  rw [nodesAt_eq TR.out]; refine Nat.lt_of_lt_of_eq ?_ HME.out.symm; simp only [Tr.cnt]; omega
theorem bplace_nil (n : Int) (w : World) : Calls Try.prog 13 #[.pointer none, .int .i64 n] w fun e w' => e = .returned (.int .i64 0) ∧ Below w.heap.size w w' := by
  go_enter Try.func13, Try.ntmps13
  go_wp2_with fail
  refine (right_nil _).mono ?_
  rintro e w1 ⟨rfl, rfl⟩
  go_wp2_with fail
  go_ret
  exact ⟨rfl, Below.refl _ _⟩
set_option maxHeartbeats 8000000 in
set_option maxRecDepth 100000 in
theorem bplace_any (n : Int) (h : BagT w F b T o) (hb : T.all ≤ 1099511627776) : Calls Try.prog 13 #[.pointer (some ⟨b, 0, none⟩), .int .i64 n] w fun e w' => e = .returned (.int .i64 (lowT n T : Int)) ∧ Below w.heap.size w w' := by
  have CR := Lib.hid (right_any h)
  obtain ⟨p, Ft, h1, h2, h3, h4⟩ := h
  obtain ⟨v, hv⟩ : ∃ v, pv p = v := ⟨_, rfl⟩
  have c1 := cellAt (o := 1) (v := v) h2 (hv ▸ rfl)
  have HV := Lib.hid hv.symm
  have HT := Lib.hid h3
  obtain ⟨res, hres⟩ : ∃ r, lowT n T = r := ⟨_, rfl⟩
  have HQ : Hid (res ≤ 1099511627776) := Lib.hid (by have := lowT_all n T; omega)
  have HR : Hid (0 + lowT n T = res) := Lib.hid (by omega)
  have HA := Lib.hid hb
  have HBT : Hid (Below w.heap.size w w) := Lib.hid (Below.refl _ _)
  rw [hres]
  clear h2 h3 h4 h1 hres hv hb
  go_enter Try.func13, Try.ntmps13
  go_wp2_with fail
  refine CR.out.mono ?_
  rintro e w1 ⟨rfl, rfl⟩
  go_wp2_with fail
  go_loopw [5, 6] (fun s x wr => ∃ (sm : Nat) (px : Option Nat) (Fx : Nat → Prop) (Tx : Tr), s = .int .i64 (sm : Int) ∧ x = pv px ∧ Hid (Below w.heap.size w wr) ∧ Hid (TreeW w Fx px Tx) ∧ Hid (Tx.all ≤ 1099511627776) ∧ Hid (sm + lowT n Tx = res)) (fun _ x _ => nodesAt w x)
  case atStart => exact ⟨0, p, Ft, T, rfl, HV.out, HBT, HT, HA, HR⟩
  case round =>
    obtain ⟨sm, px, Fx, Tx, rfl, rfl, HB, HX, HA, HY⟩ := hrel
    clear HBT
    cases Tx with
    | nil =>
      obtain rfl : px = none := HX.out
      obtain rfl : sm = res := by have := HY.out; simp only [lowT] at this; omega
      unfold pv pq
      go_wp2_with fail
      go_ret
      exact ⟨rfl, HB.out⟩
    | node m k l r =>
      have HME := Lib.hid (nodesAt_eq HX.out)
      obtain ⟨x, pl, pr, Fl, Fr, rfl, _, hn0, tl0, tr0, _⟩ := HX.out
      have hn := keepB (show w.heap[x]? = _ from hn0) HB.out
      have HN := Lib.hid hn
      have j0 := cellAt (o := 0) hn rfl
      obtain ⟨vl, hvl⟩ : ∃ v, pv pl = v := ⟨_, rfl⟩
      have HVL := Lib.hid hvl.symm
      have j4 := cellAt (o := 4) (v := vl) hn (hvl ▸ rfl)
      have TL0 := Lib.hid tl0
      have TR0 := Lib.hid tr0
      have TL := Lib.hid (tl0.below HB.out)
      obtain ⟨la, hla⟩ : ∃ a, l.all = a := ⟨_, rfl⟩
      have CC := Lib.hid (fun W (hb : TreeW W Fl pl l) => by have := quiet_same (count_any hb); rw [hla] at this; exact this)
      have HLA := Lib.hid hla
      clear hn tl0 tr0 HX hvl hla hn0
      unfold pv pq
      by_cases hl : n ≤ m
      · have HY2 : Hid (sm + lowT n l = res) := Lib.hid (by have := HY.out; simp only [lowT] at this; rwa [if_pos hl] at this)
        have HA2 : Hid (l.all ≤ 1099511627776) := Lib.hid (by have := HA.out; simp only [Tr.all] at this; omega)
        go_wp2_with fail
        go_roundw
        case rel => exact ⟨sm, pl, Fl, l, rfl, HVL.out, HB, TL0, HA2, HY2⟩
        case measure => rw [HVL.out, nodesAt_eq TL0.out]; refine Nat.lt_of_lt_of_eq ?_ HME.out.symm; simp only [Tr.cnt]; omega
      · have HY2 : Hid (sm + (la + k) + lowT n r = res) := Lib.hid (by have := HY.out; simp only [lowT] at this; rw [if_neg hl] at this; have := HLA.out; omega)
        have HA2 : Hid (r.all ≤ 1099511627776) := Lib.hid (by have := HA.out; simp only [Tr.all] at this; omega)
        have hw1 : IntKind.i64.wrap ((la : Int) + (k : Int)) = ((la + k : Nat) : Int) := by have := HY2.out; have := HQ.out; rw [IntKind.wrap_i64]; omega
        have hw2 : IntKind.i64.wrap ((sm : Int) + ((la + k : Nat) : Int)) = ((sm + (la + k) : Nat) : Int) := by have := HY2.out; have := HQ.out; rw [IntKind.wrap_i64]; omega
        go_wp2_with fail
        refine wp_region_here 13 [(0, false), (1, false), (2, false), (3, false), (4, false), (5, false), (6, false), (7, false), (8, false), (9, false), (10, false), (11, false), (12, false)] (fun _ => .cells #[] 0) (by kernel_rfl) (by kernel_rfl) ?_
        repeat (first | (refine wpP_q rfl rfl rfl ?_; apply Exists.intro; refine ⟨fun w' hw' => ?_, fun K hK => ?_⟩; (focus ((have q0 := keepB HN.out hw'; have i1 := cellAt (o := 1) q0 rfl; have i4 := cellAt (o := 4) q0 rfl; clear q0); go_simp; first | exact quiet_value | first | with_reducible exact quiet_enter (CC.out _ (TL.out.below hw')))); simp only [Act.put, List.setIfInBounds_toArray, List.set_cons_zero, List.set_cons_succ]; refine hK.out _ ?_; clear hK K) | (refine wpP_skip rfl rfl rfl (fun K hK => ?_); simp only [Act.put, List.setIfInBounds_toArray, List.set_cons_zero, List.set_cons_succ]; refine hK.out _ ?_; clear hK K))
        refine wpP_nil ?_
        intro w2 hb2
        have HN2 := Lib.hid (keepB HN.out hb2)
        have HB2 := Lib.hid (HB.out.trans (hb2.mono HB.out.size))
        clear hb2 j0 j4
        obtain ⟨vr, hvr⟩ : ∃ v, pv pr = v := ⟨_, rfl⟩
        have HVR := Lib.hid hvr.symm
        have j5 := cellAt (o := 5) (v := vr) HN2.out (hvr ▸ rfl)
        clear hvr
        try simp only [List.drop_succ_cons, List.drop_nil]
        go_wp2_with fail
        go_roundw
        case rel => exact ⟨sm + (la + k), pr, Fr, r, by simp only [Value.int.injEq, true_and]; push_cast; rw [IntKind.wrap_i64]; have h5 := HY2.out; have h6 := HQ.out; omega, HVR.out, HB2, TR0, HA2, HY2⟩
        case measure => rw [HVR.out, nodesAt_eq TR0.out]; refine Nat.lt_of_lt_of_eq ?_ HME.out.symm; simp only [Tr.cnt]; omega
set_option maxHeartbeats 4000000 in
set_option maxRecDepth 100000 in
theorem bcount_nil (n : Int) (ov : Bool) (w : World) : Calls Try.prog 10 #[.pointer none, .agg #[.int .i64 n, .bool ov]] w fun e w' => e = .returned (.int .i64 0) ∧ Below w.heap.size w w' := by
  have HB := Lib.hid (below_alloc (Below.refl w.heap.size w) (Obj.cells #[.int .i64 (n), .bool ov] 29))
  go_enter Try.func10, Try.ntmps10
  go_wp2_with fail
  refine (right_nil _).mono ?_
  rintro e w1 ⟨rfl, rfl⟩
  go_wp2_with fail
  go_ret
  exact ⟨rfl, HB.out⟩
/-- How often a value is there. -/
def countB (n : Int) (ov : Bool) (T : Tr) (o : Nat) : Nat := if chk n ov = 0 then (if ov = true then o else findT n T) else 0
set_option maxHeartbeats 4000000 in
set_option maxRecDepth 100000 in
theorem bcount_bad (n : Int) (hn : n ≠ 0) (h : BagT w F b T o) : Calls Try.prog 10 #[.pointer (some ⟨b, 0, none⟩), .agg #[.int .i64 n, .bool true]] w fun e w' => e = .returned (.int .i64 0) ∧ Below w.heap.size w w' := by
  have HB := Lib.hid (below_alloc (Below.refl w.heap.size w) (Obj.cells #[.int .i64 (n), .bool true] 29))
  have HN := Lib.hid (newB w (Obj.cells #[.int .i64 (n), .bool true] 29))
  have H1 := Lib.hid (h.below HB.out)
  have CR := Lib.hid (right_any H1.out)
  have c0 := cellAt (o := 0) HN.out rfl
  have c1 := cellAt (o := 1) HN.out rfl
  clear h
  go_enter Try.func10, Try.ntmps10
  go_wp2_with fail
  refine CR.out.mono ?_
  rintro e w1 ⟨rfl, rfl⟩
  go_wp2_with fail
  refine (check_bad n hn _).mono ?_
  rintro e w1 ⟨rfl, hb1⟩
  have HB1 := Lib.hid (HB.out.trans (hb1.mono HB.out.size))
  clear hb1
  go_wp2_with fail
  go_ret
  exact ⟨rfl, HB1.out⟩
set_option maxHeartbeats 4000000 in
set_option maxRecDepth 100000 in
theorem bcount_over (h : BagT w F b T o) : Calls Try.prog 10 #[.pointer (some ⟨b, 0, none⟩), .agg #[.int .i64 0, .bool true]] w fun e w' => e = .returned (.int .i64 (o : Int)) ∧ Below w.heap.size w w' := by
  have HB := Lib.hid (below_alloc (Below.refl w.heap.size w) (Obj.cells #[.int .i64 (0), .bool true] 29))
  have HN := Lib.hid (newB w (Obj.cells #[.int .i64 (0), .bool true] 29))
  have H1 := Lib.hid (h.below HB.out)
  have CR := Lib.hid (right_any H1.out)
  have H := Lib.hid h
  have c0 := cellAt (o := 0) HN.out rfl
  have c1 := cellAt (o := 1) HN.out rfl
  clear h
  go_enter Try.func10, Try.ntmps10
  go_wp2_with fail
  refine CR.out.mono ?_
  rintro e w1 ⟨rfl, rfl⟩
  go_wp2_with fail
  refine (check_ok 0 true (.inr rfl) _).mono ?_
  rintro e w1 ⟨rfl, hb1⟩
  have HB1 := Lib.hid (HB.out.trans (hb1.mono HB.out.size))
  have k9 := keepB HN.out hb1
  clear c0 c1
  have c0 := cellAt (o := 0) k9 rfl
  have c1 := cellAt (o := 1) k9 rfl
  clear hb1 k9
  obtain ⟨p, Ft, h1, h2, h3, h4⟩ := H.out
  have d2 := cellAt (o := 2) (v := .int .i64 o) (keepB h2 HB1.out) rfl
  clear h1 h2 h3 h4
  go_wp2_with fail
  go_ret
  exact ⟨rfl, HB1.out⟩
set_option maxHeartbeats 4000000 in
set_option maxRecDepth 100000 in
theorem bcount_num (n : Int) (h : BagT w F b T o) : Calls Try.prog 10 #[.pointer (some ⟨b, 0, none⟩), .agg #[.int .i64 n, .bool false]] w fun e w' => e = .returned (.int .i64 (findT n T : Int)) ∧ Below w.heap.size w w' := by
  have HB := Lib.hid (below_alloc (Below.refl w.heap.size w) (Obj.cells #[.int .i64 (n), .bool false] 29))
  have HN := Lib.hid (newB w (Obj.cells #[.int .i64 (n), .bool false] 29))
  have H1 := Lib.hid (h.below HB.out)
  have CR := Lib.hid (right_any H1.out)
  have H := Lib.hid h
  have c0 := cellAt (o := 0) HN.out rfl
  have c1 := cellAt (o := 1) HN.out rfl
  clear h
  go_enter Try.func10, Try.ntmps10
  go_wp2_with fail
  refine CR.out.mono ?_
  rintro e w1 ⟨rfl, rfl⟩
  go_wp2_with fail
  refine (check_ok n false (.inl rfl) _).mono ?_
  rintro e w1 ⟨rfl, hb1⟩
  have HB1 := Lib.hid (HB.out.trans (hb1.mono HB.out.size))
  have k9 := keepB HN.out hb1
  clear c0 c1
  have c0 := cellAt (o := 0) k9 rfl
  have c1 := cellAt (o := 1) k9 rfl
  clear hb1 k9
  have CF := Lib.hid (bfind_any n (H.out.below HB1.out))
  go_wp2_with fail
  refine CF.out.mono ?_
  rintro e w2 ⟨rfl, rfl⟩
  go_wp2_with fail
  go_ret
  exact ⟨rfl, HB1.out⟩
theorem bcount_any (n : Int) (ov : Bool) (h : BagT w F b T o) :
    Calls Try.prog 10 #[.pointer (some ⟨b, 0, none⟩), .agg #[.int .i64 n, .bool ov]] w fun e w' => e = .returned (.int .i64 (countB n ov T o : Int)) ∧ Below w.heap.size w w' := by
  unfold countB chk
  cases ov
  · simpa using bcount_num n h
  · by_cases hn : n = 0
    · subst hn; simpa using bcount_over h
    · simpa [hn] using bcount_bad n hn h
end
end Go.Proofs.Ytjcbikkihijkiaa
