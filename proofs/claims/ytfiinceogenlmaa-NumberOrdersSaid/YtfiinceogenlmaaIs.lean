/- Contracts of number.Is, and the law's question. -/
import Derived.Test.YtfiinceogenlmaaNumL
namespace Go.Proofs.Ytfiinceogenlmaa
open Go.RowKit
def isV (op a n : Int) : Bool := if op = 4 then decide (a < n) else if op = 5 then decide (a ≤ n) else if op = 6 then decide (n < a) else if op = 7 then decide (n ≤ a) else if op = 8 then (a == n) else (a != n)

theorem is_bad (op a n : Int) (x : Bool) (h : op < 4 ∨ 9 < op) (w : World) :
    Calls Try.prog 24 #[.int .i64 op, .agg #[.int .i64 a, .bool x], .int .i64 n] w fun e w' => e = .returned (.tuple #[.bool false, .int .i64 2]) ∧ Below w.heap.size w w' := by
  rcases h with h | h
  · go_enter Try.func24, Try.ntmps24
    go_wp2_with fail
    go_ret2
    exact ⟨rfl, below_alloc (Below.refl _ _) _⟩
  · have h' : ¬ op < 4 := by omega
    go_enter Try.func24, Try.ntmps24
    go_wp2_with fail
    go_ret2
    exact ⟨rfl, below_alloc (Below.refl _ _) _⟩
theorem is_badv (op a n : Int) (h1 : 4 ≤ op) (h2 : op ≤ 9) (ha : a ≠ 0) (w : World) :
    Calls Try.prog 24 #[.int .i64 op, .agg #[.int .i64 a, .bool true], .int .i64 n] w fun e w' => e = .returned (.tuple #[.bool false, .int .i64 2]) ∧ Below w.heap.size w w' := by
  have HB := Below.refl (boxes w [Obj.cells #[.int .i64 a, .bool true] 25]).heap.size (boxes w [Obj.cells #[.int .i64 a, .bool true] 25])
  have C := Lib.hid (fun W => check_bad a ha W)
  clear ha
  go_enter Try.func24, Try.ntmps24; go_wp2_with fail; refine (C.out _).mono ?_; rintro e w1 ⟨rfl, hb1⟩; replace HB := HB.trans (hb1.mono HB.size); clear hb1
  go_wp2_with fail
  go_ret2
  exact ⟨rfl, box_base HB⟩
theorem is_over (op n : Int) (h1 : 4 ≤ op) (h2 : op ≤ 9) (w : World) :
    Calls Try.prog 24 #[.int .i64 op, .agg #[.int .i64 0, .bool true], .int .i64 n] w fun e w' => e = .returned (.tuple #[.bool false, .int .i64 0]) ∧ Below w.heap.size w w' := by
  have HB := Below.refl (boxes w [Obj.cells #[.int .i64 0, .bool true] 25]).heap.size (boxes w [Obj.cells #[.int .i64 0, .bool true] 25])
  have C := Lib.hid (fun W => check_ok 0 true (.inr rfl) W)
  go_enter Try.func24, Try.ntmps24; go_wp2_with fail; refine (C.out _).mono ?_; rintro e w1 ⟨rfl, hb1⟩; replace HB := HB.trans (hb1.mono HB.size); clear hb1
  have k1 : (w1).cell? ⟨w.heap.size, 1, none⟩ = some (.bool true) := box_cell HB 0 1 rfl rfl _ rfl
  go_wp2_with fail
  go_ret2
  exact ⟨rfl, box_base HB⟩
theorem is_num (op a n : Int) (h1 : 4 ≤ op) (h2 : op ≤ 9) (w : World) :
    Calls Try.prog 24 #[.int .i64 op, .agg #[.int .i64 a, .bool false], .int .i64 n] w fun e w' => e = .returned (.tuple #[.bool (isV op a n), .int .i64 0]) ∧ Below w.heap.size w w' := by
  have HB := Below.refl (boxes w [Obj.cells #[.int .i64 a, .bool false] 25]).heap.size (boxes w [Obj.cells #[.int .i64 a, .bool false] 25])
  have C := Lib.hid (fun W => check_ok a false (.inl rfl) W)
  have hop : op = 4 ∨ op = 5 ∨ op = 6 ∨ op = 7 ∨ op = 8 ∨ op = 9 := by omega
  rcases hop with rfl | rfl | rfl | rfl | rfl | rfl <;> (
    clear h1 h2
    go_enter Try.func24, Try.ntmps24; go_wp2_with fail; refine (C.out _).mono ?_; rintro e w1 ⟨rfl, hb1⟩; replace HB := HB.trans (hb1.mono HB.size); clear hb1
    have k1 : (w1).cell? ⟨w.heap.size, 1, none⟩ = some (.bool false) := box_cell HB 0 1 rfl rfl _ rfl
    have k2 : (w1).cell? ⟨w.heap.size, 0, none⟩ = some (.int .i64 a) := box_cell HB 0 0 rfl rfl _ rfl
    go_wp2_with fail
    go_ret2
    exact ⟨rfl, box_base HB⟩)

/-- The law's question of a value that may be. -/
theorem ask_any (op a n : Int) (x : Bool) (hv : x = true → a = 0) (h1 : 4 ≤ op) (h2 : op ≤ 9) (b : Nat) (w : World) (hb : w.heap[b]? = some (Obj.cells #[.int .i64 a, .bool x] 25)) :
    Calls Try.prog 29 #[.int .i64 op, .int .i64 n, .pointer (some ⟨b, 0, none⟩)] w fun e w' => e = .returned (.bool (!x && isV op a n)) ∧ Below w.heap.size w w' := by
  have k1 := cellAt (o := 0) hb rfl
  have k2 := cellAt (o := 1) hb rfl
  cases x
  · have C := Lib.hid (fun W => is_num op a n h1 h2 W)
    clear h1 h2 hv hb
    go_enter Try.func29, Try.ntmps29
    go_wp2_with fail
    refine (C.out _).mono ?_; rintro e w1 ⟨rfl, hb1⟩
    go_wp2_with fail
    all_goals (go_ret; exact ⟨by simp [*], hb1⟩)
  · obtain rfl := hv rfl
    have C := Lib.hid (fun W => is_over op n h1 h2 W)
    clear h1 h2 hv hb
    go_enter Try.func29, Try.ntmps29
    go_wp2_with fail
    refine (C.out _).mono ?_; rintro e w1 ⟨rfl, hb1⟩
    go_wp2_with fail
    go_ret
    exact ⟨rfl, hb1⟩

theorem ask_num (op a n : Int) (h1 : 4 ≤ op) (h2 : op ≤ 9) (b : Nat) (w : World) (hb : w.heap[b]? = some (Obj.cells #[.int .i64 a, .bool false] 25)) :
    Calls Try.prog 29 #[.int .i64 op, .int .i64 n, .pointer (some ⟨b, 0, none⟩)] w fun e w' => e = .returned (.bool (isV op a n)) ∧ Below w.heap.size w w' := by
  simpa using ask_any op a n false (by simp) h1 h2 b w hb
theorem ask_over (op n : Int) (h1 : 4 ≤ op) (h2 : op ≤ 9) (b : Nat) (w : World) (hb : w.heap[b]? = some (Obj.cells #[.int .i64 0, .bool true] 25)) :
    Calls Try.prog 29 #[.int .i64 op, .int .i64 n, .pointer (some ⟨b, 0, none⟩)] w fun e w' => e = .returned (.bool false) ∧ Below w.heap.size w w' := by
  simpa using ask_any op 0 n true (by simp) h1 h2 b w hb
theorem isV_lt {a n : Int} (h : a < n) : isV 4 a n = true ∧ isV 5 a n = true ∧ isV 6 a n = false ∧ isV 7 a n = false ∧ isV 8 a n = false ∧ isV 9 a n = true := by
  unfold isV; simp; omega
theorem isV_eq {a n : Int} (h : a = n) : isV 4 a n = false ∧ isV 5 a n = true ∧ isV 6 a n = false ∧ isV 7 a n = true ∧ isV 8 a n = true ∧ isV 9 a n = false := by
  unfold isV; simp; omega
theorem isV_gt {a n : Int} (h : n < a) : isV 4 a n = false ∧ isV 5 a n = false ∧ isV 6 a n = true ∧ isV 7 a n = true ∧ isV 8 a n = false ∧ isV 9 a n = true := by
  unfold isV; simp; omega
theorem sub_num {a n : Int} (h : opO 2 a false n false = false) : opN 2 a false n false = a - n := (opO_false h).2.2.2
set_option maxHeartbeats 4000000 in
theorem ord_core (a n m : Int) (ha : I64 a) (hn : I64 n) (c4 c5 c6 c7 c8 c9 cd : Bool) (e4 : isV 4 a n = c4) (e5 : isV 5 a n = c5) (e6 : isV 6 a n = c6) (e7 : isV 7 a n = c7) (e8 : isV 8 a n = c8) (e9 : isV 9 a n = c9)
    (hc : (c4, c5, c6, c7, c8, c9) = (true, true, false, false, false, true) ∨ (c4, c5, c6, c7, c8, c9) = (false, true, false, true, true, false) ∨ (c4, c5, c6, c7, c8, c9) = (false, false, true, true, false, true))
    (hd : opO 2 a false n false = cd) (hs : cd = false → decide (opN 2 a false n false < 0) = c4) (hm : m < n ∨ (c4 = true → isV 4 a m = true)) (w : World) :
    Calls Try.prog 7 #[.agg #[.int .i64 a, .bool false], .int .i64 n, .int .i64 m] w fun e w' => e = .returned (.bool true) ∧ Below w.heap.size w w' := by
  have HB := Below.refl (w.alloc (Obj.cells #[.int .i64 a, .bool false] 25)).heap.size (w.alloc (Obj.cells #[.int .i64 a, .bool false] 25))
  have hmf : ∀ (fn : Fn) (first cap : Array Value) (w : World), (Instr.makeFunc fn first cap).run Try.prog w = .ok (.func fn first cap) w := fun _ _ _ _ => rfl
  have CA := Lib.hid (fun W => check_ok a false (.inl rfl) W)
  have CO := Lib.hid (fun W => of_any n W)
  have CD := Lib.hid (fun W => ldo_any 2 a n false false (by decide) (by decide) ⟨ha, by simp⟩ ⟨hn, by simp⟩ W)
  have CK := Lib.hid (fun (op k : Int) (h1 : 4 ≤ op) (h2 : op ≤ 9) (W : World) (HB : Below (w.alloc (Obj.cells #[.int .i64 a, .bool false] 25)).heap.size (w.alloc (Obj.cells #[.int .i64 a, .bool false] 25)) W) => ask_num op a k h1 h2 w.heap.size W (keepB (newB w (Obj.cells #[.int .i64 a, .bool false] 25)) HB))
  clear ha hn
  rcases hc with hc | hc | hc <;> cases cd <;> (
    simp only [Prod.mk.injEq] at hc
    obtain ⟨rfl, rfl, rfl, rfl, rfl, rfl⟩ := hc
    simp only [forall_const, reduceCtorEq, false_implies] at hs hm
    go_enter Try.func7, Try.ntmps7
    go_wp2_with fail
    refine (lives_any _).mono ?_; rintro e w1 ⟨rfl, hb1⟩; replace HB := HB.trans (hb1.mono HB.size); clear hb1
    have k1 := cellAt (o := 0) (keepB (newB w (Obj.cells #[.int .i64 a, .bool false] 25)) HB) rfl
    have k2 := cellAt (o := 1) (keepB (newB w (Obj.cells #[.int .i64 a, .bool false] 25)) HB) rfl
    go_wp2_with fail
    refine (CA.out _).mono ?_; rintro e w1 ⟨rfl, hb1⟩; replace HB := HB.trans (hb1.mono HB.size); clear hb1
    have k3 := cellAt (o := 0) (keepB (newB w (Obj.cells #[.int .i64 a, .bool false] 25)) HB) rfl
    have k4 := cellAt (o := 1) (keepB (newB w (Obj.cells #[.int .i64 a, .bool false] 25)) HB) rfl
    go_wp2_with fail
    refine wp_region_perm 5 [(0, false), (1, false), (2, false), (3, false), (4, true)] (fun _ => .cells #[.int .i64 0, .bool false] 25)
      (Below (w.alloc (Obj.cells #[.int .i64 a, .bool false] 25)).heap.size (w.alloc (Obj.cells #[.int .i64 a, .bool false] 25))) (by kernel_rfl) (by kernel_rfl) (Stab.below _ _ (Nat.le_refl _)) HB.drew ?_
    repeat (first | (refine wpP_q rfl rfl rfl ?_; apply Exists.intro; refine ⟨fun w' hw' => ?_, fun K hK => ?_⟩; (focus ((have k1 := cellAt (o := 0) (keepB (newB w (Obj.cells #[.int .i64 a, .bool false] 25)) hw') rfl; have k2 := cellAt (o := 1) (keepB (newB w (Obj.cells #[.int .i64 a, .bool false] 25)) hw') rfl); go_simp; first | exact quiet_value | first | with_reducible exact quiet_enter (CO.out _) | with_reducible exact quiet_enter (CD.out _))); simp only [Act.put, List.setIfInBounds_toArray, List.set_cons_zero, List.set_cons_succ]; refine hK.out _ ?_; clear hK K) | (refine wpP_skip rfl rfl rfl (fun K hK => ?_); simp only [Act.put, List.setIfInBounds_toArray, List.set_cons_zero, List.set_cons_succ]; refine hK.out _ ?_; clear hK K))
    refine wpP_alloc rfl rfl (fun w => by kernel_rfl) (fun K hK b1 f1 => ?_); simp only [Act.put, List.setIfInBounds_toArray, List.set_cons_zero, List.set_cons_succ]; refine hK.out _ _ _ ?_; clear hK K
    refine wpP_nil ?_
    rintro w1 ⟨HB1, hb1⟩
    have hs0 := HB.size
    rw [alloc_size] at hs0
    have hl1 := Nat.le_trans hs0 f1.1
    have hl2 : b1 < w1.heap.size := (Array.getElem?_eq_some_iff.1 hb1).1
    have g1 := cellAt hb1 (o := 0) rfl
    have g2 := cellAt hb1 (o := 1) rfl
    have g3 := freeAt 0 hb1
    have g4 := freeAt 1 hb1
    have HB2 := Lib.hid (fun u v => (HB1.setCell (p := ⟨b1, 0, none⟩) (by rw [alloc_size]; exact hl1) u).setCell (p := ⟨b1, 1, none⟩) (by rw [alloc_size]; exact hl1) v)
    clear f1 hb1 HB HB1
    simp only [List.drop_succ_cons, List.drop_zero, ptrTo]
    go_wp2_with fail
    refine wp_region_here 12 [(0, false), (1, false), (2, false), (3, false), (4, false), (5, false), (6, false), (7, false), (8, false), (9, false), (10, false), (11, false)] (fun _ => .cells #[] 0) (by kernel_rfl) (by kernel_rfl) ?_
    repeat (first | (refine wpP_q rfl rfl rfl ?_; apply Exists.intro; refine ⟨fun w' hw' => ?_, fun K hK => ?_⟩; (focus ((have hk := bcell hw'); go_simp; first | exact quiet_value | (refine quiet_enter (CK.out _ _ ?_ ?_ _ ((HB2.out _ _).trans (hw'.mono (HB2.out _ _).size))) <;> omega))); simp only [Act.put, List.setIfInBounds_toArray, List.set_cons_zero, List.set_cons_succ]; refine hK.out _ ?_; clear hK K) | (refine wpP_skip rfl rfl rfl (fun K hK => ?_); simp only [Act.put, List.setIfInBounds_toArray, List.set_cons_zero, List.set_cons_succ]; refine hK.out _ ?_; clear hK K))
    refine wpP_nil ?_
    intro w2 HBw
    have HB := (HB2.out _ _).trans (HBw.mono (HB2.out _ _).size)
    clear HBw
    simp only [List.drop_succ_cons, List.drop_zero]
    go_wp2_with fail
    clear g1 g2 g3 g4 hl1 hl2 hs0 k1 k2 k3 k4 HB2
    by_cases hmn : m < n
    · clear hm
      repeat (refine (CK.out _ _ (by omega) (by omega) _ HB).mono ?_; rintro e w1 ⟨rfl, hb1⟩; replace HB := HB.trans (hb1.mono HB.size); clear hb1; go_wp2_with fail)
      go_ret
      exact ⟨rfl, (below_alloc (Below.refl _ _) _).trans (HB.mono (by rw [alloc_size]; omega))⟩
    · simp only [hmn, false_or] at hm
      repeat (refine (CK.out _ _ (by omega) (by omega) _ HB).mono ?_; rintro e w1 ⟨rfl, hb1⟩; replace HB := HB.trans (hb1.mono HB.size); clear hb1; go_wp2_with fail)
      go_ret
      exact ⟨rfl, (below_alloc (Below.refl _ _) _).trans (HB.mono (by rw [alloc_size]; omega))⟩)

theorem ord_num (a n m : Int) (ha : I64 a) (hn : I64 n) (w : World) :
    Calls Try.prog 7 #[.agg #[.int .i64 a, .bool false], .int .i64 n, .int .i64 m] w fun e w' => e = .returned (.bool true) ∧ Below w.heap.size w w' := by
  have hsub : ∀ c : Bool, decide (a < n) = c → (opO 2 a false n false = false → decide (opN 2 a false n false < 0) = c) := fun c h h2 => by
    rw [sub_num h2, ← h, decide_eq_decide]; omega
  have hm : ∀ c : Bool, c = decide (a < n) → (m < n ∨ (c = true → isV 4 a m = true)) := fun c hc => by
    by_cases h : m < n
    · exact .inl h
    · refine .inr fun hc' => ?_
      rw [hc', eq_comm, decide_eq_true_eq] at hc
      exact (isV_lt (by omega)).1
  rcases Int.lt_trichotomy a n with h | h | h
  · obtain ⟨e4, e5, e6, e7, e8, e9⟩ := isV_lt h
    exact ord_core a n m ha hn _ _ _ _ _ _ _ e4 e5 e6 e7 e8 e9 (.inl rfl) rfl (hsub _ (by simp [h])) (hm _ (by simp [h])) w
  · obtain ⟨e4, e5, e6, e7, e8, e9⟩ := isV_eq h
    exact ord_core a n m ha hn _ _ _ _ _ _ _ e4 e5 e6 e7 e8 e9 (.inr (.inl rfl)) rfl (hsub _ (by simp [h])) (hm _ (by simp [h])) w
  · obtain ⟨e4, e5, e6, e7, e8, e9⟩ := isV_gt h
    exact ord_core a n m ha hn _ _ _ _ _ _ _ e4 e5 e6 e7 e8 e9 (.inr (.inr rfl)) rfl (hsub _ (by simp; omega)) (hm _ (by simp; omega)) w

theorem ord_bad (a n m : Int) (h : a ≠ 0) (w : World) :
    Calls Try.prog 7 #[.agg #[.int .i64 a, .bool true], .int .i64 n, .int .i64 m] w fun e w' => e = .returned (.bool true) ∧ Below w.heap.size w w' := by
  have HB := Below.refl (w.alloc (Obj.cells #[.int .i64 a, .bool true] 25)).heap.size (w.alloc (Obj.cells #[.int .i64 a, .bool true] 25))
  have CA := Lib.hid (fun W => check_bad a h W)
  clear h
  go_enter Try.func7, Try.ntmps7
  go_wp2_with fail
  refine (lives_any _).mono ?_; rintro e w1 ⟨rfl, hb1⟩; replace HB := HB.trans (hb1.mono HB.size); clear hb1
  have k1 := cellAt (o := 0) (keepB (newB w (Obj.cells #[.int .i64 a, .bool true] 25)) HB) rfl
  have k2 := cellAt (o := 1) (keepB (newB w (Obj.cells #[.int .i64 a, .bool true] 25)) HB) rfl
  go_wp2_with fail
  refine (CA.out _).mono ?_; rintro e w1 ⟨rfl, hb1⟩; replace HB := HB.trans (hb1.mono HB.size); clear hb1
  go_wp2_with fail
  go_ret
  exact ⟨rfl, (below_alloc (Below.refl _ _) _).trans (HB.mono (by rw [alloc_size]; omega))⟩

set_option maxHeartbeats 1000000 in
theorem ord_over (n m : Int) (w : World) :
    Calls Try.prog 7 #[.agg #[.int .i64 0, .bool true], .int .i64 n, .int .i64 m] w fun e w' => e = .returned (.bool true) ∧ Below w.heap.size w w' := by
  have HB := Below.refl (w.alloc (Obj.cells #[.int .i64 0, .bool true] 25)).heap.size (w.alloc (Obj.cells #[.int .i64 0, .bool true] 25))
  have hmf : ∀ (fn : Fn) (first cap : Array Value) (w : World), (Instr.makeFunc fn first cap).run Try.prog w = .ok (.func fn first cap) w := fun _ _ _ _ => rfl
  have CA := Lib.hid (fun W => check_ok 0 true (.inr rfl) W)
  have CK := Lib.hid (fun (op k : Int) (h1 : 4 ≤ op) (h2 : op ≤ 9) (W : World) (HB : Below (w.alloc (Obj.cells #[.int .i64 0, .bool true] 25)).heap.size (w.alloc (Obj.cells #[.int .i64 0, .bool true] 25)) W) => ask_over op k h1 h2 w.heap.size W (keepB (newB w (Obj.cells #[.int .i64 0, .bool true] 25)) HB))
  go_enter Try.func7, Try.ntmps7
  go_wp2_with fail
  refine (lives_any _).mono ?_; rintro e w1 ⟨rfl, hb1⟩; replace HB := HB.trans (hb1.mono HB.size); clear hb1
  have k1 := cellAt (o := 0) (keepB (newB w (Obj.cells #[.int .i64 0, .bool true] 25)) HB) rfl
  have k2 := cellAt (o := 1) (keepB (newB w (Obj.cells #[.int .i64 0, .bool true] 25)) HB) rfl
  go_wp2_with fail
  refine (CA.out _).mono ?_; rintro e w1 ⟨rfl, hb1⟩; replace HB := HB.trans (hb1.mono HB.size); clear hb1
  have k3 := cellAt (o := 1) (keepB (newB w (Obj.cells #[.int .i64 0, .bool true] 25)) HB) rfl
  go_wp2_with fail
  repeat (refine (CK.out _ _ (by omega) (by omega) _ HB).mono ?_; rintro e w1 ⟨rfl, hb1⟩; replace HB := HB.trans (hb1.mono HB.size); clear hb1; go_wp2_with fail)
  go_ret
  exact ⟨rfl, (below_alloc (Below.refl _ _) _).trans (HB.mono (by rw [alloc_size]; omega))⟩

theorem ord_any (a n m : Int) (x : Bool) (ha : I64 a) (hn : I64 n) (w : World) :
    Calls Try.prog 7 #[.agg #[.int .i64 a, .bool x], .int .i64 n, .int .i64 m] w fun e w' => e = .returned (.bool true) ∧ Below w.heap.size w w' := by
  cases x
  · exact ord_num a n m ha hn w
  · by_cases h : a = 0
    · subst h; exact ord_over n m w
    · exact ord_bad a n m h w
end Go.Proofs.Ytfiinceogenlmaa
