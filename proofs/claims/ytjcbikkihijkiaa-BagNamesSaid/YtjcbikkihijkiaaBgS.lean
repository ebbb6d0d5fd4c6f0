/- A bag of a law's own; the chapter's examples (lives). -/
import Derived.Test.YtjcbikkihijkiaaBgR
namespace Go.Proofs.Ytjcbikkihijkiaa
open Go.RowKit
/-- A bag in memory laid behind w0, beside the blocks of K. -/
structure LBag (w0 : World) (K : Nat → Prop) (w : World) (b : Nat) (L : List (Int × Nat)) (o : Nat) : Prop where
  below : Below w0.heap.size w0 w
  mem : ∃ F, BagL w F b L o ∧ ∀ i, F i → w0.heap.size ≤ i ∧ i < w.heap.size ∧ ¬ K i
  kept : ∀ i, K i → i < w.heap.size
def KeepK (K : Nat → Prop) (w w' : World) : Prop := ∀ i x, K i → w.heap[i]? = some x → w'.heap[i]? = some x
section
variable {w0 w w' : World} {K : Nat → Prop} {b o : Nat} {L : List (Int × Nat)}
theorem LBag.go (h : LBag w0 K w b L o) (hb : Below w.heap.size w w') : LBag w0 K w' b L o := by
  obtain ⟨h1, ⟨F, h2, h3⟩, h4⟩ := h
  exact ⟨h1.trans (hb.mono h1.size), ⟨F, h2.below hb, fun i hi => ⟨(h3 i hi).1, Nat.lt_of_lt_of_le (h3 i hi).2.1 hb.size, (h3 i hi).2.2⟩⟩, fun i hi => Nat.lt_of_lt_of_le (h4 i hi) hb.size⟩
theorem LBag.box (h : LBag w0 K w b L o) (x : Obj) : LBag w0 (fun i => K i ∨ i = w.heap.size) (w.alloc x) b L o := by
  have h' := h.go (below_alloc (Below.refl _ _) x)
  obtain ⟨h1, ⟨F, h2, h3⟩, h4⟩ := h
  refine ⟨h'.below, ⟨F, h2.below (below_alloc (Below.refl _ _) x), fun i hi => ?_⟩, fun i hi => ?_⟩
  · obtain ⟨a, c, d⟩ := h3 i hi
    exact ⟨a, by rw [alloc_size]; omega, fun e => e.elim d (fun e => by omega)⟩
  · rw [alloc_size]; rcases hi with hi | hi
    · have := h4 i hi; omega
    · omega
theorem LBag.turn (h : LBag w0 K w b L o) {L' : List (Int × Nat)} {o' : Nat} {R : Ending → Prop} {f : Nat} {args : Array Value}
    (hc : ∀ F, BagL w F b L o → Calls Try.prog f args w fun e w' => R e ∧ BagGL w F b L' o' w') :
    Calls Try.prog f args w fun e w' => R e ∧ LBag w0 K w' b L' o' ∧ KeepK K w w' := by
  obtain ⟨h1, ⟨F, h2, h3⟩, h4⟩ := h
  refine (hc F h2).mono ?_
  rintro e w' ⟨hr, F', g1, g2, g3⟩
  have hz := h1.size
  refine ⟨hr, ⟨h1.trans (g3.below (fun i hi => (h3 i hi).1) h1.size), ⟨F', g1, fun i hi => ?_⟩, fun i hi => Nat.lt_of_lt_of_le (h4 i hi) g3.size⟩, fun i x hi hx => g3.get hx (fun hF => (h3 i hF).2.2 hi)⟩
  obtain ⟨a, c⟩ := g2 i hi
  rcases a with a | a
  · exact ⟨(h3 i a).1, c, (h3 i a).2.2⟩
  · exact ⟨by omega, c, fun hk => by have := h4 i hk; omega⟩
theorem LBag.read (h : LBag w0 K w b L o) {R : Ending → World → Prop} {f : Nat} {args : Array Value} (hc : ∀ F, BagL w F b L o → Calls Try.prog f args w R) : Calls Try.prog f args w R := by
  obtain ⟨h1, ⟨F, h2, h3⟩, h4⟩ := h
  exact hc F h2
end
theorem newLBag {w0 w : World} (hb : Below w0.heap.size w0 w) : Calls Try.prog 8 #[] w fun e w' => e = .returned (.pointer (some ⟨w.heap.size, 0, none⟩)) ∧ LBag w0 (fun _ => False) w' w.heap.size [] 0 := by
  refine (bnew_L w).mono ?_
  rintro e w' ⟨h1, h2, h3, h4⟩
  have := hb.size
  exact ⟨h1, hb.trans (h3.mono hb.size), ⟨_, h2, fun i e => ⟨by omega, by omega, fun h => h⟩⟩, fun _ h => h.elim⟩
theorem val_any (n : Int) (w : World) : Calls Try.prog 25 #[.int .i64 n] w fun e w' => e = .returned (.agg #[.int .i64 n, .bool false]) ∧ Below w.heap.size w w' := by
  go_enter Try.func25, Try.ntmps25
  go_wp2
  exact bodyPost_ret (v := .agg #[.int .i64 n, .bool false]) (by simp [results, Try.results25, go_sem]) rfl ⟨rfl, (Below.refl _ _).alloc (Nat.le_refl _) _⟩
set_option maxHeartbeats 4000000 in
set_option maxRecDepth 100000 in
theorem lives_any (w : World) : Calls Try.prog 7 #[] w fun e w' => e = .returned (.bool true) ∧ Below w.heap.size w w' := by
  have C0 := Lib.hid (newLBag (Below.refl w.heap.size w))
  have hi3 : I64 3 := by unfold I64; omega
  have hi5 : I64 5 := by unfold I64; omega
  have hi0 : I64 0 := by unfold I64; omega
  have R0 : ∀ (L L' : List (Int × Nat)) (o o' : Nat) (n : Int) (ov : Bool) (K : Nat → Prop), I64 n → o + 1 ≤ 1099511627776 → sumL L + 1 ≤ 1099511627776 → chk n ov = 0 → putLs n ov L o = (L', o') → Hid (∀ W, LBag w K W w.heap.size L o → Calls Try.prog 9 #[.pointer (some ⟨w.heap.size, 0, none⟩), .agg #[.int .i64 n, .bool ov]] W fun e w' => e = .returned (.int .i64 0) ∧ LBag w K w' w.heap.size L' o' ∧ KeepK K W w') := fun L L' o o' n ov K h1 h2 h3 h4 h5 => Lib.hid (fun W h => h.turn (fun F h => by have := bput_L n ov h1 h h2 h3; rw [h4, h5] at this; exact this))
  have R1 : ∀ (L L' : List (Int × Nat)) (o o' : Nat) (n : Int) (ov : Bool) (K : Nat → Prop), o ≤ 1099511627776 → sumL L ≤ 1099511627776 → takeLs n ov L o = (0, L', o') → Hid (∀ W, LBag w K W w.heap.size L o → Calls Try.prog 11 #[.pointer (some ⟨w.heap.size, 0, none⟩), .agg #[.int .i64 n, .bool ov]] W fun e w' => e = .returned (.int .i64 0) ∧ LBag w K w' w.heap.size L' o' ∧ KeepK K W w') := fun L L' o o' n ov K h2 h3 h5 => Lib.hid (fun W h => h.turn (fun F h => by have := btake_L n ov h h2 h3; rw [h5] at this; exact this))
  have P1 := R0 [] [(3, 1)] 0 0 3 false (fun _ => False) hi3 (by omega) (by simp [sumL]) rfl rfl
  have P2 := R0 [(3, 1)] [(3, 1), (5, 1)] 0 0 5 false (fun _ => False) hi5 (by omega) (by simp [sumL]) rfl rfl
  have P3 := R0 [(3, 1), (5, 1)] [(3, 2), (5, 1)] 0 0 3 false (fun _ => False) hi3 (by omega) (by simp [sumL]) rfl rfl
  have P4 := R1 [(3, 2), (5, 1)] [(3, 1), (5, 1)] 0 0 3 false (fun _ => False) (by omega) (by simp [sumL]) rfl
  have P5 := R0 [(3, 1), (5, 1)] [(3, 1), (5, 1)] 0 1 0 true
  have P6 := R1 [(3, 1), (5, 1)] [(3, 1), (5, 1)] 1 0 0 true
  have Q1 : Hid (∀ W K, LBag w K W w.heap.size [(3, 1), (5, 1)] 0 → Calls Try.prog 14 #[.pointer (some ⟨w.heap.size, 0, none⟩)] W fun e w' => e = .returned (.tuple #[.agg #[.int .i64 3, .bool false], .bool true]) ∧ Below W.heap.size W w') := Lib.hid (fun W K h => h.read (fun F h => bleast_L h (by simp [sumL])))
  have Q2 : Hid (∀ W K, LBag w K W w.heap.size [(3, 1), (5, 1)] 0 → Calls Try.prog 13 #[.pointer (some ⟨w.heap.size, 0, none⟩), .int .i64 5] W fun e w' => e = .returned (.int .i64 1) ∧ Below W.heap.size W w') := Lib.hid (fun W K h => h.read (fun F h => bplace_L 5 h (by simp [sumL])))
  have Q3 : Hid (∀ W K, LBag w K W w.heap.size [(3, 1), (5, 1)] 1 → Calls Try.prog 14 #[.pointer (some ⟨w.heap.size, 0, none⟩)] W fun e w' => e = .returned (.tuple #[.agg #[.int .i64 0, .bool true], .bool true]) ∧ Below W.heap.size W w') := Lib.hid (fun W K h => h.read (fun F h => bleast_L h (by simp [sumL])))
  have Q4 : Hid (∀ W K, LBag w K W w.heap.size [(3, 1), (5, 1)] 0 → Calls Try.prog 15 #[.pointer (some ⟨w.heap.size, 0, none⟩)] W fun e w' => e = .returned (.tuple #[.agg #[.int .i64 5, .bool false], .bool true]) ∧ Below W.heap.size W w') := Lib.hid (fun W K h => h.read (fun F h => bmost_L h (by simp [sumL])))
  clear R0 R1
  go_enter Try.func7, Try.ntmps7
  go_wp2_with fail
  refine C0.out.mono ?_
  rintro e w1 ⟨rfl, h1⟩
  have HS := Lib.hid h1
  clear h1
  go_wp2_with fail
  refine (val_any 3 _).mono ?_
  rintro e w1 ⟨rfl, hb⟩
  replace HS := Lib.hid (HS.out.go hb)
  clear hb
  go_wp2_with fail
  refine (P1.out _ HS.out).mono ?_
  rintro e w1 ⟨rfl, h1, _⟩
  replace HS := Lib.hid h1
  clear h1
  go_wp2_with fail
  go_wp2_with fail
  refine (val_any 5 _).mono ?_
  rintro e w1 ⟨rfl, hb⟩
  replace HS := Lib.hid (HS.out.go hb)
  clear hb
  go_wp2_with fail
  refine (P2.out _ HS.out).mono ?_
  rintro e w1 ⟨rfl, h1, _⟩
  replace HS := Lib.hid h1
  clear h1
  go_wp2_with fail
  go_wp2_with fail
  refine (val_any 3 _).mono ?_
  rintro e w1 ⟨rfl, hb⟩
  replace HS := Lib.hid (HS.out.go hb)
  clear hb
  go_wp2_with fail
  refine (P3.out _ HS.out).mono ?_
  rintro e w1 ⟨rfl, h1, _⟩
  replace HS := Lib.hid h1
  clear h1
  go_wp2_with fail
  go_wp2_with fail
  refine (val_any 3 _).mono ?_
  rintro e w1 ⟨rfl, hb⟩
  replace HS := Lib.hid (HS.out.go hb)
  clear hb
  go_wp2_with fail
  refine (P4.out _ HS.out).mono ?_
  rintro e w1 ⟨rfl, h1, _⟩
  replace HS := Lib.hid h1
  clear h1
  go_wp2_with fail
  refine (Q1.out _ _ HS.out).mono ?_
  rintro e w2 ⟨rfl, hb⟩
  have h5 := (HS.out.go hb).box (Obj.cells #[.int .i64 (3), .bool false] 29)
  have HX := Lib.hid (newB w2 (Obj.cells #[.int .i64 (3), .bool false] 29))
  obtain ⟨X, hX⟩ : ∃ X, w2.heap.size = X := ⟨_, rfl⟩
  rw [hX] at h5 HX
  have HS5 := Lib.hid h5
  clear hb h5 HS
  go_wp2_with fail
  clear hX
  obtain ⟨W5, hW5⟩ : ∃ W, w2.alloc (Obj.cells #[.int .i64 (3), .bool false] 29) = W := ⟨_, rfl⟩
  rw [hW5] at HS5 HX ⊢
  clear hW5
  refine wp_region_here 16 [(0, false), (1, false), (2, false), (3, false), (4, false), (5, false), (6, false), (7, false), (8, false), (9, false), (10, false), (11, false), (12, false), (13, false), (14, false), (15, false)] (fun _ => .cells #[] 0) (by kernel_rfl) (by kernel_rfl) ?_
  repeat (first | (refine wpP_q rfl rfl rfl ?_; apply Exists.intro; refine ⟨fun w' hw' => ?_, fun K hK => ?_⟩; (focus ((have q0 := keepB HX.out hw'; have c0 := cellAt (o := 0) q0 rfl; have c1 := cellAt (o := 1) q0 rfl; clear q0); go_simp; first | exact quiet_value | first | with_reducible exact quiet_enter (val_any _ _) | with_reducible exact quiet_enter (Q2.out _ _ (HS5.out.go hw')))); simp only [Act.put, List.setIfInBounds_toArray, List.set_cons_zero, List.set_cons_succ]; refine hK.out _ ?_; clear hK K) | (refine wpP_skip rfl rfl rfl (fun K hK => ?_); simp only [Act.put, List.setIfInBounds_toArray, List.set_cons_zero, List.set_cons_succ]; refine hK.out _ ?_; clear hK K))
  refine wpP_nil ?_
  intro w6 hb6
  have HS6 := Lib.hid (HS5.out.go hb6)
  have HX6 := Lib.hid (keepB HX.out hb6)
  clear hb6
  try simp only [List.drop_succ_cons, List.drop_zero]
  go_wp2_with fail
  refine ((P5 _ hi0 (by omega) (by simp [sumL]) rfl rfl).out _ HS6.out).mono ?_
  rintro e w7 ⟨rfl, h7, hk7⟩
  have HS7 := Lib.hid h7
  clear h7 hk7
  go_wp2_with fail
  refine (Q3.out _ _ HS7.out).mono ?_
  rintro e w8 ⟨rfl, hb⟩
  have h9 := (HS7.out.go hb).box (Obj.cells #[.int .i64 (0), .bool true] 29)
  have HY := Lib.hid (newB w8 (Obj.cells #[.int .i64 (0), .bool true] 29))
  obtain ⟨Y, hY⟩ : ∃ Y, w8.heap.size = Y := ⟨_, rfl⟩
  rw [hY] at h9 HY
  have HS9 := Lib.hid h9
  clear hb h9
  go_wp2_with fail
  clear hY
  refine ((P6 _ (by omega) (by simp [sumL]) rfl).out _ HS9.out).mono ?_
  rintro e w10 ⟨rfl, h10, hk10⟩
  have HY10 := Lib.hid (hk10 Y _ (.inr rfl) HY.out)
  have HS10 := Lib.hid h10
  clear h10 hk10
  go_wp2_with fail
  refine (Q4.out _ _ HS10.out).mono ?_
  rintro e w11 ⟨rfl, hb⟩
  have HS11 := Lib.hid ((HS10.out.go hb).box (Obj.cells #[.int .i64 (5), .bool false] 29))
  have HZ := Lib.hid (newB w11 (Obj.cells #[.int .i64 (5), .bool false] 29))
  have HY11 := Lib.hid (keepA (keepB HY10.out hb) (Obj.cells #[.int .i64 (5), .bool false] 29))
  obtain ⟨Z, hZ⟩ : ∃ Z, w11.heap.size = Z := ⟨_, rfl⟩
  rw [hZ] at HZ HS11
  clear hb
  go_wp2_with fail
  clear hZ
  obtain ⟨W12, hW12⟩ : ∃ W, w11.alloc (Obj.cells #[.int .i64 (5), .bool false] 29) = W := ⟨_, rfl⟩
  rw [hW12] at HS11 HZ HY11 ⊢
  clear hW12
  refine wp_region_here 9 [(0, false), (1, false), (2, false), (3, false), (4, false), (5, false), (6, false), (7, false), (8, false)] (fun _ => .cells #[] 0) (by kernel_rfl) (by kernel_rfl) ?_
  repeat (first | (refine wpP_q rfl rfl rfl ?_; apply Exists.intro; refine ⟨fun w' hw' => ?_, fun K hK => ?_⟩; (focus ((have q0 := keepB HZ.out hw'; have q1 := keepB HY11.out hw'; have c0 := cellAt (o := 0) q0 rfl; have c1 := cellAt (o := 1) q0 rfl; have c2 := cellAt (o := 1) q1 rfl; clear q0 q1); go_simp; first | exact quiet_value | first | with_reducible exact quiet_enter (val_any _ _))); simp only [Act.put, List.setIfInBounds_toArray, List.set_cons_zero, List.set_cons_succ]; refine hK.out _ ?_; clear hK K) | (refine wpP_skip rfl rfl rfl (fun K hK => ?_); simp only [Act.put, List.setIfInBounds_toArray, List.set_cons_zero, List.set_cons_succ]; refine hK.out _ ?_; clear hK K))
  refine wpP_nil ?_
  intro w13 hb13
  have HB := Lib.hid (HS11.out.go hb13).below
  clear hb13
  try simp only [List.drop_succ_cons, List.drop_nil]
  go_wp2_with fail
  go_ret
  exact ⟨rfl, HB.out⟩
end Go.Proofs.Ytjcbikkihijkiaa
