/- A bag in memory: New, right, Len, Put. -/
import Derived.Test.YtjcbikkihijkiaaBgN
namespace Go.Proofs.Ytjcbikkihijkiaa
open Go.RowKit
def bagC (p : Option Nat) (o : Nat) : Array Value := #[.bool true, pv p, .int .i64 (o : Int)]
/-- The bag at block b, in memory of F: its tree, its overs. -/
def BagT (w : World) (F : Nat → Prop) (b : Nat) (T : Tr) (o : Nat) : Prop :=
  ∃ p Ft, F b ∧ w.heap[b]? = some (.cells (bagC p o) 58 (0, 0)) ∧ TreeW w Ft p T ∧ (∀ i, Ft i → F i ∧ i ≠ b)
section
variable {w w' : World} {F S : Nat → Prop} {b o : Nat} {T : Tr}
theorem BagT.keep (h : BagT w F b T o) (ho : Only S w w') (hn : ∀ k, F k → k < w.heap.size → ¬ S k) : BagT w' F b T o := by
  obtain ⟨p, Ft, h1, h2, h3, h4⟩ := h
  exact ⟨p, Ft, h1, ho.get h2 (hn b h1 (only_lt h2)), h3.keep ho (fun k hk => hn k (h4 k hk).1), h4⟩
theorem BagT.below (h : BagT w F b T o) (hb : Below w.heap.size w w') : BagT w' F b T o := h.keep (S := fun _ => False) (Only.of_below hb) (fun _ _ _ h => h)
theorem BagT.old (h : BagT w F b T o) : BagT w (fun k => F k ∧ k < w.heap.size) b T o := by
  obtain ⟨p, Ft, h1, h2, h3, h4⟩ := h
  exact ⟨p, _, ⟨h1, only_lt h2⟩, h2, h3.old, fun i hi => ⟨⟨(h4 i hi.1).1, hi.2⟩, (h4 i hi.1).2⟩⟩
theorem BagT.weak (h : BagT w F b T o) (hG : ∀ i, F i → S i) : BagT w S b T o := by
  obtain ⟨p, Ft, h1, h2, h3, h4⟩ := h
  exact ⟨p, Ft, hG _ h1, h2, h3, fun i hi => ⟨hG _ (h4 i hi).1, (h4 i hi).2⟩⟩
end
theorem bnew_any (w : World) : Calls Try.prog 8 #[] w fun e w' => e = .returned (.pointer (some ⟨w.heap.size, 0, none⟩)) ∧ BagT w' (fun i => i = w.heap.size) w.heap.size .nil 0 ∧ Below w.heap.size w w' ∧ w'.heap.size = w.heap.size + 1 := by
  have HB := Lib.hid (below_alloc (Below.refl w.heap.size w) (.cells (bagC none 0) 58))
  have HN := Lib.hid (newB w (.cells (bagC none 0) 58))
  have HS : Hid ((w.alloc (.cells (bagC none 0) 58)).heap.size = w.heap.size + 1) := Lib.hid (alloc_size _ _)
  go_enter Try.func8, Try.ntmps8
  go_wp2_with fail
  go_ret
  exact ⟨rfl, ⟨none, fun _ => False, rfl, HN.out, rfl, fun _ h => h.elim⟩, HB.out, HS.out⟩
theorem right_any {w : World} {F : Nat → Prop} {b : Nat} {T : Tr} {o : Nat} (h : BagT w F b T o) : Calls Try.prog 26 #[.pointer (some ⟨b, 0, none⟩)] w fun e w' => e = .returned (.bool true) ∧ w = w' := by
  obtain ⟨p, Ft, h1, h2, h3, h4⟩ := h
  have k0 := cellAt (o := 0) (v := .bool true) h2 rfl
  clear h2 h3 h4
  go_enter Try.func26, Try.ntmps26
  go_wp2_with fail
  go_ret
  exact ⟨rfl, rfl⟩
theorem right_nil (w : World) : Calls Try.prog 26 #[.pointer none] w fun e w' => e = .returned (.bool false) ∧ w = w' := by
  go_enter Try.func26, Try.ntmps26
  go_wp2_with fail
  go_ret
  exact ⟨rfl, rfl⟩
set_option maxHeartbeats 4000000 in
set_option maxRecDepth 100000 in
theorem blen_any {w : World} {F : Nat → Prop} {b : Nat} {T : Tr} {o : Nat} (h : BagT w F b T o) (hb : o + T.all ≤ 1099511627776) : Calls Try.prog 16 #[.pointer (some ⟨b, 0, none⟩)] w fun e w' => e = .returned (.int .i64 ((o + T.all : Nat) : Int)) ∧ Below w.heap.size w w' := by
  have CR := Lib.hid (right_any h)
  obtain ⟨p, Ft, h1, h2, h3, h4⟩ := h
  have H2 := Lib.hid h2
  have H3 := Lib.hid h3
  obtain ⟨a, ha⟩ : ∃ a, T.all = a := ⟨_, rfl⟩
  have CC := Lib.hid (fun W (hb : TreeW W Ft p T) => by have := quiet_same (count_any hb); rw [ha] at this; exact this)
  rw [ha] at hb ⊢
  have hw : IntKind.i64.wrap ((o : Int) + (a : Int)) = ((o + a : Nat) : Int) := by rw [IntKind.wrap_i64]; omega
  clear h2 h3 ha
  go_enter Try.func16, Try.ntmps16
  go_wp2_with fail
  refine CR.out.mono ?_
  rintro e w1 ⟨rfl, rfl⟩
  go_wp2_with fail
  refine wp_region_here 11 [(0, false), (1, false), (2, false), (3, false), (4, false), (5, false), (6, false), (7, false), (8, false), (9, false), (10, false)] (fun _ => .cells #[] 0) (by kernel_rfl) (by kernel_rfl) ?_
  repeat (first | (refine wpP_q rfl rfl rfl ?_; apply Exists.intro; refine ⟨fun w' hw' => ?_, fun K hK => ?_⟩; (focus ((have q0 := keepB H2.out hw'; have k1 := cellAt (o := 1) (v := pv p) q0 rfl; have k2 := cellAt (o := 2) (v := .int .i64 o) q0 rfl; clear q0); go_simp; first | exact quiet_value | first | with_reducible exact quiet_enter (CC.out _ (H3.out.below hw')))); simp only [Act.put, List.setIfInBounds_toArray, List.set_cons_zero, List.set_cons_succ]; refine hK.out _ ?_; clear hK K) | (refine wpP_skip rfl rfl rfl (fun K hK => ?_); simp only [Act.put, List.setIfInBounds_toArray, List.set_cons_zero, List.set_cons_succ]; refine hK.out _ ?_; clear hK K))
  refine wpP_nil ?_
  intro w2 hb2
  have HB := Lib.hid hb2
  clear hb2
  try simp only [List.drop_succ_cons, List.drop_nil]
  go_wp2_with fail
  go_ret
  exact ⟨rfl, HB.out⟩
end Go.Proofs.Ytjcbikkihijkiaa
