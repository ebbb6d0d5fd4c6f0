/- A bag in memory: Least, Most; a bag that nobody made. -/
import Derived.Test.YtjcbikkihijkiaaBgE
namespace Go.Proofs.Ytjcbikkihijkiaa
open Go.RowKit
def endB (T : Tr) (o : Nat) (n : Int) : Bool × Int × Bool := if 0 < o then (true, 0, true) else if T.all = 0 then (false, 0, false) else (false, n, true)
section
variable {w : World} {F : Nat → Prop} {b : Nat} {T : Tr} {o : Nat}
theorem ends_least (h : BagT w F b T o) (hb : o + T.all ≤ 1099511627776) : Calls Try.prog 34 #[.pointer (some ⟨b, 0, none⟩), .func (.func 35) #[] #[]] w fun e w' => e = .returned (endP (endB T o (loT T)).1 (endB T o (loT T)).2.1 (endB T o (loT T)).2.2) ∧ Below w.heap.size w w' := by
  unfold endB
  by_cases ho : 0 < o
  · rw [if_pos ho]; exact end_over _ h hb ho
  · rw [if_neg ho]
    obtain rfl : o = 0 := by omega
    by_cases ha : T.all = 0
    · rw [if_pos ha]; exact end_empty _ h (by omega)
    · rw [if_neg ha]; exact end_least h hb (by omega)
theorem ends_most (h : BagT w F b T o) (hb : o + T.all ≤ 1099511627776) : Calls Try.prog 34 #[.pointer (some ⟨b, 0, none⟩), .func (.func 36) #[] #[]] w fun e w' => e = .returned (endP (endB T o (hiT T)).1 (endB T o (hiT T)).2.1 (endB T o (hiT T)).2.2) ∧ Below w.heap.size w w' := by
  unfold endB
  by_cases ho : 0 < o
  · rw [if_pos ho]; exact end_over _ h hb ho
  · rw [if_neg ho]
    obtain rfl : o = 0 := by omega
    by_cases ha : T.all = 0
    · rw [if_pos ha]; exact end_empty _ h (by omega)
    · rw [if_neg ha]; exact end_most h hb (by omega)
set_option maxHeartbeats 4000000 in
set_option maxRecDepth 100000 in
theorem bleast_nil (w : World) : Calls Try.prog 14 #[.pointer none] w fun e w' => e = .returned (endP false 0 false) ∧ Below w.heap.size w w' := by
  have HB := Lib.hid (below_alloc (Below.refl w.heap.size w) (Obj.cells #[.int .i64 (0), .bool false] 29))
  have HN := Lib.hid (newB w (Obj.cells #[.int .i64 (0), .bool false] 29))
  unfold endP
  go_enter Try.func14, Try.ntmps14
  go_wp2_with fail
  refine (end_nil _ _).mono ?_
  rintro e w1 ⟨rfl, hb1⟩
  unfold endP
  have HB1 := Lib.hid (HB.out.trans (hb1.mono HB.out.size))
  have k9 := keepB HN.out hb1
  have f0 := freeAt 0 k9
  have f1 := freeAt 1 k9
  have m0 := cellAt (o := 0) k9 rfl
  have m1 := cellAt (o := 1) k9 rfl
  clear hb1 k9
  go_wp2_with fail
  exact bodyPost_ret (v := .tuple #[.agg #[.int .i64 0, .bool false], .bool false]) (by simp only [results, Try.results14]; go_simp) rfl ⟨rfl, (HB1.out.setCell (by dsimp only; omega) _).setCell (by dsimp only; omega) _⟩
set_option maxHeartbeats 4000000 in
set_option maxRecDepth 100000 in
theorem bmost_nil (w : World) : Calls Try.prog 15 #[.pointer none] w fun e w' => e = .returned (endP false 0 false) ∧ Below w.heap.size w w' := by
  have HB := Lib.hid (below_alloc (Below.refl w.heap.size w) (Obj.cells #[.int .i64 (0), .bool false] 29))
  have HN := Lib.hid (newB w (Obj.cells #[.int .i64 (0), .bool false] 29))
  unfold endP
  go_enter Try.func15, Try.ntmps15
  go_wp2_with fail
  refine (end_nil _ _).mono ?_
  rintro e w1 ⟨rfl, hb1⟩
  unfold endP
  have HB1 := Lib.hid (HB.out.trans (hb1.mono HB.out.size))
  have k9 := keepB HN.out hb1
  have f0 := freeAt 0 k9
  have f1 := freeAt 1 k9
  have m0 := cellAt (o := 0) k9 rfl
  have m1 := cellAt (o := 1) k9 rfl
  clear hb1 k9
  go_wp2_with fail
  exact bodyPost_ret (v := .tuple #[.agg #[.int .i64 0, .bool false], .bool false]) (by simp only [results, Try.results15]; go_simp) rfl ⟨rfl, (HB1.out.setCell (by dsimp only; omega) _).setCell (by dsimp only; omega) _⟩
set_option maxHeartbeats 4000000 in
set_option maxRecDepth 100000 in
theorem bleast_any (h : BagT w F b T o) (hb : o + T.all ≤ 1099511627776) : Calls Try.prog 14 #[.pointer (some ⟨b, 0, none⟩)] w fun e w' => e = .returned (endP (endB T o (loT T)).1 (endB T o (loT T)).2.1 (endB T o (loT T)).2.2) ∧ Below w.heap.size w w' := by
  have HB := Lib.hid (below_alloc (Below.refl w.heap.size w) (Obj.cells #[.int .i64 (0), .bool false] 29))
  have HN := Lib.hid (newB w (Obj.cells #[.int .i64 (0), .bool false] 29))
  have CE := Lib.hid (ends_least (h.below HB.out) hb)
  obtain ⟨⟨ov, n, is⟩, he⟩ : ∃ q, endB T o (loT T) = q := ⟨_, rfl⟩
  rw [he] at CE ⊢
  simp only at CE ⊢
  clear he
  unfold endP
  go_enter Try.func14, Try.ntmps14
  go_wp2_with fail
  refine (CE.out).mono ?_
  rintro e w1 ⟨rfl, hb1⟩
  unfold endP
  have HB1 := Lib.hid (HB.out.trans (hb1.mono HB.out.size))
  have k9 := keepB HN.out hb1
  have f0 := freeAt 0 k9
  have f1 := freeAt 1 k9
  have m0 := cellAt (o := 0) k9 rfl
  have m1 := cellAt (o := 1) k9 rfl
  clear hb1 k9
  go_wp2_with fail
  exact bodyPost_ret (v := .tuple #[.agg #[.int .i64 n, .bool ov], .bool is]) (by simp only [results, Try.results14]; go_simp) rfl ⟨rfl, (HB1.out.setCell (by dsimp only; omega) _).setCell (by dsimp only; omega) _⟩
set_option maxHeartbeats 4000000 in
set_option maxRecDepth 100000 in
theorem bmost_any (h : BagT w F b T o) (hb : o + T.all ≤ 1099511627776) : Calls Try.prog 15 #[.pointer (some ⟨b, 0, none⟩)] w fun e w' => e = .returned (endP (endB T o (hiT T)).1 (endB T o (hiT T)).2.1 (endB T o (hiT T)).2.2) ∧ Below w.heap.size w w' := by
  have HB := Lib.hid (below_alloc (Below.refl w.heap.size w) (Obj.cells #[.int .i64 (0), .bool false] 29))
  have HN := Lib.hid (newB w (Obj.cells #[.int .i64 (0), .bool false] 29))
  have CE := Lib.hid (ends_most (h.below HB.out) hb)
  obtain ⟨⟨ov, n, is⟩, he⟩ : ∃ q, endB T o (hiT T) = q := ⟨_, rfl⟩
  rw [he] at CE ⊢
  simp only at CE ⊢
  clear he
  unfold endP
  go_enter Try.func15, Try.ntmps15
  go_wp2_with fail
  refine (CE.out).mono ?_
  rintro e w1 ⟨rfl, hb1⟩
  unfold endP
  have HB1 := Lib.hid (HB.out.trans (hb1.mono HB.out.size))
  have k9 := keepB HN.out hb1
  have f0 := freeAt 0 k9
  have f1 := freeAt 1 k9
  have m0 := cellAt (o := 0) k9 rfl
  have m1 := cellAt (o := 1) k9 rfl
  clear hb1 k9
  go_wp2_with fail
  exact bodyPost_ret (v := .tuple #[.agg #[.int .i64 n, .bool ov], .bool is]) (by simp only [results, Try.results15]; go_simp) rfl ⟨rfl, (HB1.out.setCell (by dsimp only; omega) _).setCell (by dsimp only; omega) _⟩
end
theorem bput_nil (n : Int) (ov : Bool) (w : World) : Calls Try.prog 9 #[.pointer none, .agg #[.int .i64 n, .bool ov]] w fun e w' => e = .returned (.int .i64 1) ∧ Below w.heap.size w w' := by
  have HB := Lib.hid (below_alloc (Below.refl w.heap.size w) (Obj.cells #[.int .i64 (n), .bool ov] 29))
  go_enter Try.func9, Try.ntmps9
  go_wp2_with fail
  refine (right_nil _).mono ?_
  rintro e w1 ⟨rfl, rfl⟩
  go_wp2_with fail
  go_ret
  exact ⟨rfl, HB.out⟩
theorem btake_nil (n : Int) (ov : Bool) (w : World) : Calls Try.prog 11 #[.pointer none, .agg #[.int .i64 n, .bool ov]] w fun e w' => e = .returned (.int .i64 1) ∧ Below w.heap.size w w' := by
  have HB := Lib.hid (below_alloc (Below.refl w.heap.size w) (Obj.cells #[.int .i64 (n), .bool ov] 29))
  go_enter Try.func11, Try.ntmps11
  go_wp2_with fail
  refine (right_nil _).mono ?_
  rintro e w1 ⟨rfl, rfl⟩
  go_wp2_with fail
  go_ret
  exact ⟨rfl, HB.out⟩
theorem blen_nil (w : World) : Calls Try.prog 16 #[.pointer none] w fun e w' => e = .returned (.int .i64 0) ∧ Below w.heap.size w w' := by
  go_enter Try.func16, Try.ntmps16
  go_wp2_with fail
  refine (right_nil _).mono ?_
  rintro e w1 ⟨rfl, rfl⟩
  go_wp2_with fail
  go_ret
  exact ⟨rfl, Below.refl _ _⟩
theorem bbytes_nil (w : World) : Calls Try.prog 22 #[.pointer none] w fun e w' => e = .returned (.slice none 0 0) ∧ Below w.heap.size w w' := by
  go_enter Try.func22, Try.ntmps22
  go_wp2_with fail
  refine (right_nil _).mono ?_
  rintro e w1 ⟨rfl, rfl⟩
  go_wp2_with fail
  go_ret
  exact ⟨rfl, Below.refl _ _⟩
end Go.Proofs.Ytjcbikkihijkiaa
