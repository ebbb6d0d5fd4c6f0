/- A bag in memory: end, Least, Most. -/
import Derived.Test.YtjcbikkihijkiaaBgD
namespace Go.Proofs.Ytjcbikkihijkiaa
open Go.RowKit
def loT : Tr → Int
  | .nil => 0
  | .node m _ .nil _ => m
  | .node _ _ (.node a b c d) _ => loT (.node a b c d)
def hiT : Tr → Int
  | .nil => 0
  | .node m _ _ .nil => m
  | .node _ _ _ (.node a b c d) => hiT (.node a b c d)
theorem next_l {w : World} {x : Nat} {n a v : Int} {k : Nat} {pl pr : Option Nat} (h : NodeW w x n k a v pl pr) : Calls Try.prog 35 #[.pointer (some ⟨x, 0, none⟩)] w fun e w' => e = .returned (pv pl) ∧ w = w' := by
  obtain ⟨u, hu⟩ : ∃ u, pv pl = u := ⟨_, rfl⟩
  have j4 := cellAt (o := 4) (v := u) h (hu ▸ rfl)
  rw [hu]
  clear h hu
  go_enter Try.func35, Try.ntmps35
  go_wp2_with fail
  refine bodyPost_ret (v := u) (by simp only [results, Try.results35]; go_simp) rfl ⟨rfl, rfl⟩
theorem next_r {w : World} {x : Nat} {n a v : Int} {k : Nat} {pl pr : Option Nat} (h : NodeW w x n k a v pl pr) : Calls Try.prog 36 #[.pointer (some ⟨x, 0, none⟩)] w fun e w' => e = .returned (pv pr) ∧ w = w' := by
  obtain ⟨u, hu⟩ : ∃ u, pv pr = u := ⟨_, rfl⟩
  have j5 := cellAt (o := 5) (v := u) h (hu ▸ rfl)
  rw [hu]
  clear h hu
  go_enter Try.func36, Try.ntmps36
  go_wp2_with fail
  refine bodyPost_ret (v := u) (by simp only [results, Try.results36]; go_simp) rfl ⟨rfl, rfl⟩
def endP (ov : Bool) (n : Int) (is : Bool) : Value := .tuple #[.agg #[.int .i64 n, .bool ov], .bool is]
section
variable {w : World} {F : Nat → Prop} {b : Nat} {T : Tr} {o : Nat}
set_option maxHeartbeats 4000000 in
set_option maxRecDepth 100000 in
theorem end_nil (f : Value) (w : World) : Calls Try.prog 34 #[.pointer none, f] w fun e w' => e = .returned (endP false 0 false) ∧ Below w.heap.size w w' := by
  have HB := Lib.hid (below_alloc (Below.refl w.heap.size w) (Obj.cells #[.int .i64 (0), .bool false] 29))
  have HN := Lib.hid (newB w (Obj.cells #[.int .i64 (0), .bool false] 29))
  have f0 := freeAt 0 HN.out
  have f1 := freeAt 1 HN.out
  have m0 := cellAt (o := 0) HN.out rfl
  have m1 := cellAt (o := 1) HN.out rfl
  go_enter Try.func34, Try.ntmps34
  go_wp2_with fail
  refine (right_nil _).mono ?_
  rintro e w1 ⟨rfl, rfl⟩
  go_wp2_with fail
  exact bodyPost_ret (v := endP false 0 false) (by simp only [results, Try.results34, endP]; go_simp) rfl ⟨rfl, HB.out⟩
set_option maxHeartbeats 4000000 in
set_option maxRecDepth 100000 in
theorem end_empty (f : Value) (h : BagT w F b T o) (hb : o + T.all = 0) : Calls Try.prog 34 #[.pointer (some ⟨b, 0, none⟩), f] w fun e w' => e = .returned (endP false 0 false) ∧ Below w.heap.size w w' := by
  have h0 := hb
  replace hb : o + T.all ≤ 1099511627776 := by omega
  have HB := Lib.hid (below_alloc (Below.refl w.heap.size w) (Obj.cells #[.int .i64 (0), .bool false] 29))
  have HN := Lib.hid (newB w (Obj.cells #[.int .i64 (0), .bool false] 29))
  have H1 := Lib.hid (h.below HB.out)
  have CR := Lib.hid (right_any H1.out)
  have CL := Lib.hid (blen_any H1.out hb)
  obtain ⟨ln, hln⟩ : ∃ n, o + T.all = n := ⟨_, rfl⟩
  rw [hln] at CL
  have HLN := Lib.hid hln
  have H := Lib.hid h
  clear h hln hb
  go_enter Try.func34, Try.ntmps34
  go_wp2_with fail
  refine CR.out.mono ?_
  rintro e w1 ⟨rfl, rfl⟩
  go_wp2_with fail
  refine CL.out.mono ?_
  rintro e w2 ⟨rfl, hb2⟩
  have HB2 := Lib.hid (HB.out.trans (hb2.mono HB.out.size))
  have HN2 := Lib.hid (keepB HN.out hb2)
  clear hb2 CL CR
  have f0 := freeAt 0 HN2.out
  have f1 := freeAt 1 HN2.out
  have m0 := cellAt (o := 0) HN2.out rfl
  have m1 := cellAt (o := 1) HN2.out rfl
  obtain rfl : ln = 0 := HLN.out.symm.trans h0
  go_wp2_with fail
  exact bodyPost_ret (v := endP false 0 false) (by simp only [results, Try.results34, endP]; go_simp) rfl ⟨rfl, (HB2.out.setCell (by dsimp only; omega) _).setCell (by dsimp only; omega) _⟩
set_option maxHeartbeats 4000000 in
set_option maxRecDepth 100000 in
theorem end_over (f : Value) (h : BagT w F b T o) (hb : o + T.all ≤ 1099511627776) (ho : 0 < o) : Calls Try.prog 34 #[.pointer (some ⟨b, 0, none⟩), f] w fun e w' => e = .returned (endP true 0 true) ∧ Below w.heap.size w w' := by
  have HB := Lib.hid (below_alloc (Below.refl w.heap.size w) (Obj.cells #[.int .i64 (0), .bool false] 29))
  have HN := Lib.hid (newB w (Obj.cells #[.int .i64 (0), .bool false] 29))
  have H1 := Lib.hid (h.below HB.out)
  have CR := Lib.hid (right_any H1.out)
  have CL := Lib.hid (blen_any H1.out hb)
  obtain ⟨ln, hln⟩ : ∃ n, o + T.all = n := ⟨_, rfl⟩
  rw [hln] at CL
  have HLN := Lib.hid hln
  have H := Lib.hid h
  clear h hln hb
  go_enter Try.func34, Try.ntmps34
  go_wp2_with fail
  refine CR.out.mono ?_
  rintro e w1 ⟨rfl, rfl⟩
  go_wp2_with fail
  refine CL.out.mono ?_
  rintro e w2 ⟨rfl, hb2⟩
  have HB2 := Lib.hid (HB.out.trans (hb2.mono HB.out.size))
  have HN2 := Lib.hid (keepB HN.out hb2)
  clear hb2 CL CR
  have f0 := freeAt 0 HN2.out
  have f1 := freeAt 1 HN2.out
  have m0 := cellAt (o := 0) HN2.out rfl
  have m1 := cellAt (o := 1) HN2.out rfl
  have hne : ¬ (ln : Int) = 0 := by have := HLN.out; omega
  have hp : (0 : Int) < (o : Int) := by omega
  obtain ⟨p, Ft, h1, h2, h3, h4⟩ := H.out
  have d2 := cellAt (o := 2) (v := .int .i64 o) (keepB h2 HB2.out) rfl
  clear h1 h2 h3 h4
  go_wp2_with fail
  exact bodyPost_ret (v := endP true 0 true) (by simp only [results, Try.results34, endP]; go_simp) rfl ⟨rfl, (HB2.out.setCell (by dsimp only; omega) _).setCell (by dsimp only; omega) _⟩
set_option maxHeartbeats 8000000 in
set_option maxRecDepth 100000 in
theorem end_least (h : BagT w F b T 0) (hb : 0 + T.all ≤ 1099511627776) (ho : 0 < T.all) : Calls Try.prog 34 #[.pointer (some ⟨b, 0, none⟩), .func (.func 35) #[] #[]] w fun e w' => e = .returned (endP false (loT T) true) ∧ Below w.heap.size w w' := by
  obtain ⟨o, ho0⟩ : ∃ o, 0 = o := ⟨_, rfl⟩
  rw [ho0] at h hb
  have HO0 := Lib.hid ho0
  obtain ⟨res, hres⟩ : ∃ r, loT T = r := ⟨_, rfl⟩
  rw [hres]
  have HR := Lib.hid hres
  clear ho0 hres
  have HB := Lib.hid (below_alloc (Below.refl w.heap.size w) (Obj.cells #[.int .i64 (0), .bool false] 29))
  have HN := Lib.hid (newB w (Obj.cells #[.int .i64 (0), .bool false] 29))
  have H1 := Lib.hid (h.below HB.out)
  have CR := Lib.hid (right_any H1.out)
  have CL := Lib.hid (blen_any H1.out hb)
  obtain ⟨ln, hln⟩ : ∃ n, o + T.all = n := ⟨_, rfl⟩
  rw [hln] at CL
  have HLN := Lib.hid hln
  have H := Lib.hid h
  clear h hln hb
  go_enter Try.func34, Try.ntmps34
  go_wp2_with fail
  refine CR.out.mono ?_
  rintro e w1 ⟨rfl, rfl⟩
  go_wp2_with fail
  refine CL.out.mono ?_
  rintro e w2 ⟨rfl, hb2⟩
  have HB2 := Lib.hid (HB.out.trans (hb2.mono HB.out.size))
  have HN2 := Lib.hid (keepB HN.out hb2)
  clear hb2 CL CR
  have f0 := freeAt 0 HN2.out
  have f1 := freeAt 1 HN2.out
  have m0 := cellAt (o := 0) HN2.out rfl
  have m1 := cellAt (o := 1) HN2.out rfl
  have hne : ¬ (ln : Int) = 0 := by have := HLN.out; omega
  have hp : ¬ (0 : Int) < (o : Int) := by have := HO0.out; omega
  obtain ⟨p, Ft, h1, h2, h3, h4⟩ := H.out
  have k9 := keepB h2 HB2.out
  have d2 := cellAt (o := 2) (v := .int .i64 o) k9 rfl
  obtain ⟨pp, rfl⟩ : ∃ x, p = some x := by
    cases T with
    | nil => simp [Tr.all] at ho
    | node => obtain ⟨x, _, _, _, _, rfl, _⟩ := h3; exact ⟨x, rfl⟩
  have d1 := cellAt (o := 1) (v := .pointer (some ⟨pp, 0, none⟩)) k9 rfl
  have HT := Lib.hid (h3.below HB2.out)
  clear h1 h2 h3 h4 k9
  go_wp2_with fail
  have z1 : ((ln : Int) == 0) = false := by simpa using hne
  have z2 : decide (0 < o) = false := by simp only [decide_eq_false_iff_not]; have := HO0.out; omega
  simp only [z1, z2]
  clear hne hp z1 z2
  go_loopw [6] (fun x wr => w2 = wr ∧ ∃ px Fx Tx, x = .pointer (some ⟨px, 0, none⟩) ∧ Hid (TreeW w2 Fx (some px) Tx) ∧ Hid (loT Tx = res)) (fun x wr => nodesAt wr x)
  case atStart => exact ⟨rfl, pp, Ft, T, rfl, HT, HR⟩
  case round =>
    obtain ⟨rfl, px, Fx, Tx, rfl, HX, HY⟩ := hrel
    cases Tx with
    | nil => have := HX.out; simp [TreeW] at this
    | node m k l r =>
      have HME := Lib.hid (nodesAt_eq HX.out)
      obtain ⟨x, pl, pr, Fl, Fr, he, _, hn, tl, tr, _⟩ := HX.out
      cases he
      have CN := Lib.hid (next_l hn)
      have j0 := cellAt (o := 0) hn rfl
      have TL := Lib.hid tl
      clear hn tl tr HX
      cases l with
      | nil =>
        obtain rfl : pl = none := TL.out
        obtain rfl : m = res := HY.out
        clear TL HY
        unfold pv pq at CN
        go_wp2_with fail
        refine CN.out.mono ?_
        rintro e w3 ⟨rfl, rfl⟩
        go_wp2_with fail
        refine (of_any m _).mono ?_
        rintro e w3 ⟨rfl, hb3⟩
        have HB3 := Lib.hid (HB2.out.trans (hb3.mono HB2.out.size))
        have k9 := keepB HN2.out hb3
        clear f0 f1 m0 m1 hb3
        have f0 := freeAt 0 k9
        have f1 := freeAt 1 k9
        have m0 := cellAt (o := 0) k9 rfl
        have m1 := cellAt (o := 1) k9 rfl
        clear k9
        go_wp2_with fail
        exact bodyPost_ret (v := endP false m true) (by simp only [results, Try.results34, endP]; go_simp) rfl ⟨rfl, (HB3.out.setCell (by dsimp only; omega) _).setCell (by dsimp only; omega) _⟩
      | node a c d e =>
        have HY2 : Hid (loT (.node a c d e) = res) := Lib.hid HY.out
        obtain ⟨y, rfl⟩ : ∃ y, pl = some y := by obtain ⟨y, _, _, _, _, e, _⟩ := TL.out; exact ⟨y, e⟩
        unfold pv pq at CN
        simp only [] at CN
        go_wp2_with fail
        refine CN.out.mono ?_
        rintro e w3 ⟨rfl, rfl⟩
        go_wp2_with fail
        refine CN.out.mono ?_
        rintro e w3 ⟨rfl, rfl⟩
        go_wp2_with fail
        go_roundw
        case rel => exact ⟨trivial, y, _, _, rfl, TL, HY2⟩
        case measure => show nodesAt w2 (pv (some y)) < nodesAt w2 (pv (some px)); rw [nodesAt_eq TL.out]; refine Nat.lt_of_lt_of_eq ?_ HME.out.symm; simp only [Tr.cnt]; omega
set_option maxHeartbeats 8000000 in
set_option maxRecDepth 100000 in
theorem end_most (h : BagT w F b T 0) (hb : 0 + T.all ≤ 1099511627776) (ho : 0 < T.all) : Calls Try.prog 34 #[.pointer (some ⟨b, 0, none⟩), .func (.func 36) #[] #[]] w fun e w' => e = .returned (endP false (hiT T) true) ∧ Below w.heap.size w w' := by
  obtain ⟨o, ho0⟩ : ∃ o, 0 = o := ⟨_, rfl⟩
  rw [ho0] at h hb
  have HO0 := Lib.hid ho0
  obtain ⟨res, hres⟩ : ∃ r, hiT T = r := ⟨_, rfl⟩
  rw [hres]
  have HR := Lib.hid hres
  clear ho0 hres
  have HB := Lib.hid (below_alloc (Below.refl w.heap.size w) (Obj.cells #[.int .i64 (0), .bool false] 29))
  have HN := Lib.hid (newB w (Obj.cells #[.int .i64 (0), .bool false] 29))
  have H1 := Lib.hid (h.below HB.out)
  have CR := Lib.hid (right_any H1.out)
  have CL := Lib.hid (blen_any H1.out hb)
  obtain ⟨ln, hln⟩ : ∃ n, o + T.all = n := ⟨_, rfl⟩
  rw [hln] at CL
  have HLN := Lib.hid hln
  have H := Lib.hid h
  clear h hln hb
  go_enter Try.func34, Try.ntmps34
  go_wp2_with fail
  refine CR.out.mono ?_
  rintro e w1 ⟨rfl, rfl⟩
  go_wp2_with fail
  refine CL.out.mono ?_
  rintro e w2 ⟨rfl, hb2⟩
  have HB2 := Lib.hid (HB.out.trans (hb2.mono HB.out.size))
  have HN2 := Lib.hid (keepB HN.out hb2)
  clear hb2 CL CR
  have f0 := freeAt 0 HN2.out
  have f1 := freeAt 1 HN2.out
  have m0 := cellAt (o := 0) HN2.out rfl
  have m1 := cellAt (o := 1) HN2.out rfl
  have hne : ¬ (ln : Int) = 0 := by have := HLN.out; omega
  have hp : ¬ (0 : Int) < (o : Int) := by have := HO0.out; omega
  obtain ⟨p, Ft, h1, h2, h3, h4⟩ := H.out
  have k9 := keepB h2 HB2.out
  have d2 := cellAt (o := 2) (v := .int .i64 o) k9 rfl
  obtain ⟨pp, rfl⟩ : ∃ x, p = some x := by
    cases T with
    | nil => simp [Tr.all] at ho
    | node => obtain ⟨x, _, _, _, _, rfl, _⟩ := h3; exact ⟨x, rfl⟩
  have d1 := cellAt (o := 1) (v := .pointer (some ⟨pp, 0, none⟩)) k9 rfl
  have HT := Lib.hid (h3.below HB2.out)
  clear h1 h2 h3 h4 k9
  go_wp2_with fail
  have z1 : ((ln : Int) == 0) = false := by simpa using hne
  have z2 : decide (0 < o) = false := by simp only [decide_eq_false_iff_not]; have := HO0.out; omega
  simp only [z1, z2]
  clear hne hp z1 z2
  go_loopw [6] (fun x wr => w2 = wr ∧ ∃ px Fx Tx, x = .pointer (some ⟨px, 0, none⟩) ∧ Hid (TreeW w2 Fx (some px) Tx) ∧ Hid (hiT Tx = res)) (fun x wr => nodesAt wr x)
  case atStart => exact ⟨rfl, pp, Ft, T, rfl, HT, HR⟩
  case round =>
    obtain ⟨rfl, px, Fx, Tx, rfl, HX, HY⟩ := hrel
    cases Tx with
    | nil => have := HX.out; simp [TreeW] at this
    | node m k l r =>
      have HME := Lib.hid (nodesAt_eq HX.out)
      obtain ⟨x, pl, pr, Fl, Fr, he, _, hn, tl, tr, _⟩ := HX.out
      cases he
      have CN := Lib.hid (next_r hn)
      have j0 := cellAt (o := 0) hn rfl
      have TL := Lib.hid tr
      clear hn tl tr HX
      cases r with
      | nil =>
        obtain rfl : pr = none := TL.out
        obtain rfl : m = res := HY.out
        clear TL HY
        unfold pv pq at CN
        go_wp2_with fail
        refine CN.out.mono ?_
        rintro e w3 ⟨rfl, rfl⟩
        go_wp2_with fail
        refine (of_any m _).mono ?_
        rintro e w3 ⟨rfl, hb3⟩
        have HB3 := Lib.hid (HB2.out.trans (hb3.mono HB2.out.size))
        have k9 := keepB HN2.out hb3
        clear f0 f1 m0 m1 hb3
        have f0 := freeAt 0 k9
        have f1 := freeAt 1 k9
        have m0 := cellAt (o := 0) k9 rfl
        have m1 := cellAt (o := 1) k9 rfl
        clear k9
        go_wp2_with fail
        exact bodyPost_ret (v := endP false m true) (by simp only [results, Try.results34, endP]; go_simp) rfl ⟨rfl, (HB3.out.setCell (by dsimp only; omega) _).setCell (by dsimp only; omega) _⟩
      | node a c d e =>
        have HY2 : Hid (hiT (.node a c d e) = res) := Lib.hid HY.out
        obtain ⟨y, rfl⟩ : ∃ y, pr = some y := by obtain ⟨y, _, _, _, _, e, _⟩ := TL.out; exact ⟨y, e⟩
        unfold pv pq at CN
        simp only [] at CN
        go_wp2_with fail
        refine CN.out.mono ?_
        rintro e w3 ⟨rfl, rfl⟩
        go_wp2_with fail
        refine CN.out.mono ?_
        rintro e w3 ⟨rfl, rfl⟩
        go_wp2_with fail
        go_roundw
        case rel => exact ⟨trivial, y, _, _, rfl, TL, HY2⟩
        case measure => show nodesAt w2 (pv (some y)) < nodesAt w2 (pv (some px)); rw [nodesAt_eq TL.out]; refine Nat.lt_of_lt_of_eq ?_ HME.out.symm; simp only [Tr.cnt]; omega
end
end Go.Proofs.Ytjcbikkihijkiaa
