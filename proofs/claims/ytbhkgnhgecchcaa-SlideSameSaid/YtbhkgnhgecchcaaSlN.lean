/- slide.New. -/
import Derived.Test.YtbhkgnhgecchcaaSlW
import Derived.Test.YtbhkgnhgecchcaaMap
import Derived.Carry
namespace Go.Proofs.Ytbhkgnhgecchcaa
open Go.RowKit
/-- The slide at block s: what it is of, its time, its points; K: no more points have been put. -/
def SlideW (w : World) (F : Nat → Prop) (s : Nat) (fn span time : Int) (P : List Pt) (K : Nat) : Prop :=
  F s ∧ ∃ lv iv, w.heap[s]? = some (.cells #[.int .i64 fn, .int .i64 span, .int .i64 time, lv, iv] 63 (0, 0)) ∧ RowAt w (fun k => F k ∧ k ≠ s) 54 3 lv P.length (pcs P) ∧
    MkW w (fun k => F k ∧ k ≠ s ∧ lv.ownBlock ≠ some k) fn iv P K
section
variable {w w' : World} {F G S : Nat → Prop} {s : Nat} {fn span time : Int} {P : List Pt} {K : Nat}
theorem SlideW.lt (h : SlideW w F s fn span time P K) : s < w.heap.size := by
  obtain ⟨_, lv, iv, h1, _⟩ := h; exact only_lt h1
theorem SlideW.keep (h : SlideW w F s fn span time P K) (ho : Only S w w') (hn : ∀ k, F k → k < w.heap.size → ¬ S k) : SlideW w' F s fn span time P K := by
  obtain ⟨h0, lv, iv, h1, h2, h3⟩ := h
  exact ⟨h0, lv, iv, ho.get h1 (hn s h0 (only_lt h1)), h2.keep ho (fun k hk => hn k hk.1), h3.keep ho (fun k hk => hn k hk.1)⟩
theorem SlideW.weak (h : SlideW w F s fn span time P K) (hG : ∀ k, k < w.heap.size → F k → G k) : SlideW w G s fn span time P K := by
  obtain ⟨h0, lv, iv, h1, h2, h3⟩ := h
  exact ⟨hG s (only_lt h1) h0, lv, iv, h1, h2.weak (fun k hl hk => ⟨hG k hl hk.1, hk.2⟩), h3.weak (fun k hl hk => ⟨hG k hl hk.1, hk.2⟩)⟩
theorem SlideW.below (h : SlideW w F s fn span time P K) (hb : Below w.heap.size w w') : SlideW w' F s fn span time P K := h.keep (S := fun _ => False) (Only.of_below hb) (fun _ _ _ h => h)
end
theorem new_sum {w : World} {M : Nat → Prop} {b : Nat} (hM : M b) (h : w.heap[b]? = some (.cells #[.int .i64 0, .int .u64 0, .int .u64 0] 77 (0, 0))) : MkW w M 1 (.iface 73 (.pointer (some ⟨b, 0, none⟩))) [] 0 := .inl ⟨rfl, b, rfl, hM, h⟩
theorem new_inc {w : World} {M : Nat → Prop} {b : Nat} (hM : M b) (h : w.heap[b]? = some (.cells #[.int .i64 0, .int .u64 0, .int .u64 0] 85 (0, 0))) : MkW w M 6 (.iface 84 (.pointer (some ⟨b, 0, none⟩))) [] 0 := .inr (.inr (.inr (.inr ⟨rfl, b, rfl, hM, h⟩)))
theorem new_end {w : World} {M : Nat → Prop} {b : Nat} (sign : Bool) (hM : M b) (h : w.heap[b]? = some (.cells #[.bool sign, .slice none 0 0, .int .i64 0] 82 (0, 0))) : MkW w M (if sign then 4 else 3) (.iface 80 (.pointer (some ⟨b, 0, none⟩))) [] 0 :=
  .inr (.inr (.inl ⟨sign, rfl, b, rfl, hM, .slice none 0 0, 0, [], h, RowAt.nil_, rfl, Nat.le_refl _⟩))
theorem new_count {w : World} {M : Nat → Prop} : MkW w M 2 (.iface 79 (.agg #[])) [] 0 := .inr (.inl ⟨rfl, rfl⟩)
theorem new_last {w : World} {M : Nat → Prop} : MkW w M 5 (.iface 83 (.agg #[])) [] 0 := .inr (.inr (.inr (.inl ⟨rfl, rfl⟩)))
theorem zero_maker (w : World) : (zeroValue 61).run Try.prog w = .ok .nilIface w := by kernel_rfl
/-- May a slide be of this function and span? -/
def okNew (fn span : Int) : Prop := (1 ≤ fn ∧ fn ≤ 6) ∧ 1 ≤ span ∧ span ≤ 1073741824
instance (fn span : Int) : Decidable (okNew fn span) := by unfold okNew; exact inferInstance
def NewP (fn span : Int) (w : World) (e : Ending) (w' : World) : Prop :=
  (okNew fn span ∧ ∃ s, e = .returned (.tuple #[ptrTo s, .int .i64 0]) ∧ SlideW w' (fun k => w.heap.size ≤ k) s fn span 0 [] 0 ∧ Below w.heap.size w w') ∨
  (¬ okNew fn span ∧ e = .returned (.tuple #[.pointer none, .int .i64 2]) ∧ Below w.heap.size w w')
set_option maxRecDepth 100000 in
theorem snew_any (fn span : Int) (w : World) :
    Calls Try.prog 17 #[.int .i64 fn, .int .i64 span] w (NewP fn span w) := by
  have hmm := @run_makeMap Try.prog
  have b1 := newB (w.alloc (.map #[] 0)) (.cells #[.int .i64 0, .int .u64 0, .int .u64 0] 77)
  rw [alloc_size] at b1
  have HW := Lib.hid (below_alloc (below_alloc (Below.refl w.heap.size w) (.map #[] 0)) (.cells #[.int .i64 0, .int .u64 0, .int .u64 0] 77))
  have M0 := Lib.hid ((MapI.new w).keep (S := fun _ => False) ((Only.refl _ _).alloc (.cells #[.int .i64 0, .int .u64 0, .int .u64 0] 77)) (fun h => h))
  have B1 := Lib.hid b1
  clear b1
  go_enter Try.func17, Try.ntmps17
  go_wp2_with fail
  obtain ⟨W1, e9, M1, o9⟩ := run_ins (P := Try.prog) (T := 86) Try.underlying86 Try.underlying3 M0.out 1 (.iface 73 (.pointer (some ⟨w.heap.size + 1, 0, none⟩))) (by simp)
  rw [e9]
  clear e9
  replace M1 := Lib.hid M1
  replace HW := Lib.hid (HW.out.trans (o9.below (fun k e => by omega) HW.out.size))
  replace B1 := Lib.hid (o9.get B1.out (by omega))
  clear o9
  go_wp2_with fail
  obtain ⟨W2, e9, M2, o9⟩ := run_ins (P := Try.prog) (T := 86) Try.underlying86 Try.underlying3 M1.out 2 (.iface 79 (.agg #[])) (by simp)
  rw [e9]
  clear e9
  replace M2 := Lib.hid M2
  replace HW := Lib.hid (HW.out.trans (o9.below (fun k e => by omega) HW.out.size))
  replace B1 := Lib.hid (o9.get B1.out (by omega))
  have hz := only_lt B1.out
  clear o9
  go_wp2_with fail
  have hb9 := below_alloc (Below.refl (W2).heap.size W2) (.cells #[.bool false, .slice none 0 0, .int .i64 0] 82)
  replace M2 := Lib.hid (M2.out.keep (S := fun _ => False) (Only.of_below hb9) (fun h => h))
  replace HW := Lib.hid (HW.out.trans (hb9.mono HW.out.size))
  replace B1 := Lib.hid (keepB B1.out hb9)
  have B3 := Lib.hid (newB W2 (.cells #[.bool false, .slice none 0 0, .int .i64 0] 82))
  clear hb9
  obtain ⟨W3, e9, M3, o9⟩ := run_ins (P := Try.prog) (T := 86) Try.underlying86 Try.underlying3 M2.out 3 (.iface 80 (.pointer (some ⟨W2.heap.size, 0, none⟩))) (by simp)
  rw [e9]
  clear e9
  replace M3 := Lib.hid M3
  replace HW := Lib.hid (HW.out.trans (o9.below (fun k e => by omega) HW.out.size))
  replace B1 := Lib.hid (o9.get B1.out (by omega))
  replace B3 := Lib.hid (o9.get B3.out (by omega))
  have hz3 := only_lt B3.out
  clear o9
  go_wp2_with fail
  have hb9 := below_alloc (Below.refl (W3).heap.size W3) (.cells #[.bool true, .slice none 0 0, .int .i64 0] 82)
  replace M3 := Lib.hid (M3.out.keep (S := fun _ => False) (Only.of_below hb9) (fun h => h))
  replace HW := Lib.hid (HW.out.trans (hb9.mono HW.out.size))
  replace B1 := Lib.hid (keepB B1.out hb9)
  replace B3 := Lib.hid (keepB B3.out hb9)
  have B4 := Lib.hid (newB W3 (.cells #[.bool true, .slice none 0 0, .int .i64 0] 82))
  clear hb9
  obtain ⟨W4, e9, M4, o9⟩ := run_ins (P := Try.prog) (T := 86) Try.underlying86 Try.underlying3 M3.out 4 (.iface 80 (.pointer (some ⟨W3.heap.size, 0, none⟩))) (by simp)
  rw [e9]
  clear e9
  replace M4 := Lib.hid M4
  replace HW := Lib.hid (HW.out.trans (o9.below (fun k e => by omega) HW.out.size))
  replace B1 := Lib.hid (o9.get B1.out (by omega))
  replace B3 := Lib.hid (o9.get B3.out (by omega))
  replace B4 := Lib.hid (o9.get B4.out (by omega))
  have hz4 := only_lt B4.out
  clear o9
  go_wp2_with fail
  obtain ⟨W5, e9, M5, o9⟩ := run_ins (P := Try.prog) (T := 86) Try.underlying86 Try.underlying3 M4.out 5 (.iface 83 (.agg #[])) (by simp)
  rw [e9]
  clear e9
  replace M5 := Lib.hid M5
  replace HW := Lib.hid (HW.out.trans (o9.below (fun k e => by omega) HW.out.size))
  replace B1 := Lib.hid (o9.get B1.out (by omega))
  replace B3 := Lib.hid (o9.get B3.out (by omega))
  replace B4 := Lib.hid (o9.get B4.out (by omega))
  have hz5 := only_lt B4.out
  clear o9
  go_wp2_with fail
  have hb9 := below_alloc (Below.refl (W5).heap.size W5) (.cells #[.int .i64 0, .int .u64 0, .int .u64 0] 85)
  replace M5 := Lib.hid (M5.out.keep (S := fun _ => False) (Only.of_below hb9) (fun h => h))
  replace HW := Lib.hid (HW.out.trans (hb9.mono HW.out.size))
  replace B1 := Lib.hid (keepB B1.out hb9)
  replace B3 := Lib.hid (keepB B3.out hb9)
  replace B4 := Lib.hid (keepB B4.out hb9)
  have B6 := Lib.hid (newB W5 (.cells #[.int .i64 0, .int .u64 0, .int .u64 0] 85))
  clear hb9
  obtain ⟨W6, e9, M6, o9⟩ := run_ins (P := Try.prog) (T := 86) Try.underlying86 Try.underlying3 M5.out 6 (.iface 84 (.pointer (some ⟨W5.heap.size, 0, none⟩))) (by simp)
  rw [e9]
  clear e9
  replace M6 := Lib.hid M6
  replace HW := Lib.hid (HW.out.trans (o9.below (fun k e => by omega) HW.out.size))
  replace B1 := Lib.hid (o9.get B1.out (by omega))
  replace B3 := Lib.hid (o9.get B3.out (by omega))
  replace B4 := Lib.hid (o9.get B4.out (by omega))
  replace B6 := Lib.hid (o9.get B6.out (by omega))
  have hz6 := only_lt B6.out
  clear o9
  go_wp2_with fail
  rw [run_look (P := Try.prog) Try.underlying86 Try.underlying3 zero_maker M6.out fn]
  simp only [List.nil_append, List.cons_append]
  have Z2 := Lib.hid (show w.heap.size ≤ W2.heap.size by omega)
  have Z3 := Lib.hid (show w.heap.size ≤ W3.heap.size by omega)
  have Z5 := Lib.hid (show w.heap.size ≤ W5.heap.size by omega)
  clear hz hz3 hz4 hz5 hz6 hmm M0 M1 M2 M3 M4 M5 M6
  by_cases hfn : 1 ≤ fn ∧ fn ≤ 6
  · obtain ⟨T, rv, hf, hmk⟩ : ∃ T rv, (findI fn [(1, .iface 73 (.pointer (some ⟨w.heap.size + 1, 0, none⟩))), (2, .iface 79 (.agg #[])), (3, .iface 80 (.pointer (some ⟨W2.heap.size, 0, none⟩))), (4, .iface 80 (.pointer (some ⟨W3.heap.size, 0, none⟩))), (5, .iface 83 (.agg #[])), (6, .iface 84 (.pointer (some ⟨W5.heap.size, 0, none⟩)))]).getD .nilIface = .iface T rv ∧ MkW W6 (fun k => w.heap.size ≤ k) fn (.iface T rv) [] 0 := by
      have h2 := Z2.out
      have h3 := Z3.out
      have h5 := Z5.out
      have : fn = 1 ∨ fn = 2 ∨ fn = 3 ∨ fn = 4 ∨ fn = 5 ∨ fn = 6 := by omega
      rcases this with rfl | rfl | rfl | rfl | rfl | rfl
      · exact ⟨_, _, rfl, new_sum (by omega) B1.out⟩
      · exact ⟨_, _, rfl, new_count⟩
      · exact ⟨_, _, rfl, new_end false (by omega) B3.out⟩
      · exact ⟨_, _, rfl, new_end true (by omega) B4.out⟩
      · exact ⟨_, _, rfl, new_last⟩
      · exact ⟨_, _, rfl, new_inc (by omega) B6.out⟩
    rw [hf]
    have HMk := Lib.hid hmk
    have HFn := Lib.hid hfn
    clear hf hmk hfn B1 B3 B4 B6
    by_cases h1 : span < 1
    · have HN : Hid (¬ okNew fn span) := Lib.hid (fun h => by have := h.2.1; omega)
      go_wp2_with fail
      go_ret2
      exact .inr ⟨HN.out, rfl, HW.out⟩
    by_cases h2 : 1073741824 < span
    · have HN : Hid (¬ okNew fn span) := Lib.hid (fun h => by have := h.2.2; omega)
      go_wp2_with fail
      go_ret2
      exact .inr ⟨HN.out, rfl, HW.out⟩
    have HY : Hid (okNew fn span) := Lib.hid ⟨HFn.out, by omega, by omega⟩
    go_wp2_with fail
    go_ret2
    refine .inl ⟨HY.out, W6.heap.size, rfl, ⟨HW.out.size, .slice none 0 0, .iface T rv, newB _ _, RowAt.nil_, ?_⟩, below_alloc HW.out _⟩
    refine (HMk.out.weak (N := fun k => w.heap.size ≤ k ∧ k ≠ W6.heap.size ∧ (Value.slice none 0 0).ownBlock ≠ some k) (fun k hk h => ⟨h, by omega, by simp [Value.ownBlock]⟩)).below (below_alloc (Below.refl _ _) _)
  · have hf : (findI fn [(1, .iface 73 (.pointer (some ⟨w.heap.size + 1, 0, none⟩))), (2, .iface 79 (.agg #[])), (3, .iface 80 (.pointer (some ⟨W2.heap.size, 0, none⟩))), (4, .iface 80 (.pointer (some ⟨W3.heap.size, 0, none⟩))), (5, .iface 83 (.agg #[])), (6, .iface 84 (.pointer (some ⟨W5.heap.size, 0, none⟩)))]).getD .nilIface = .nilIface := by
      have e1 : (1 == fn) = false := beq_eq_false_iff_ne.2 (by omega)
      have e2 : (2 == fn) = false := beq_eq_false_iff_ne.2 (by omega)
      have e3 : (3 == fn) = false := beq_eq_false_iff_ne.2 (by omega)
      have e4 : (4 == fn) = false := beq_eq_false_iff_ne.2 (by omega)
      have e5 : (5 == fn) = false := beq_eq_false_iff_ne.2 (by omega)
      have e6 : (6 == fn) = false := beq_eq_false_iff_ne.2 (by omega)
      simp [findI, List.find?, e1, e2, e3, e4, e5, e6]
    rw [hf]
    have HN : Hid (¬ okNew fn span) := Lib.hid (fun h => hfn h.1)
    clear hf hfn B1 B3 B4 B6
    go_wp2_with fail
    go_ret2
    exact .inr ⟨HN.out, rfl, HW.out⟩
end Go.Proofs.Ytbhkgnhgecchcaa
