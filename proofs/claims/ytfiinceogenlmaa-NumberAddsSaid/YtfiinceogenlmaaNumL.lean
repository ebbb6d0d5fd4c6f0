/- Do over values that may be; the law's do; lives. -/
import Derived.Test.YtfiinceogenlmaaLives
namespace Go.Proofs.Ytfiinceogenlmaa
open Go.RowKit

def opR (op a b : Int) : Int := if op = 1 then a + b else if op = 2 then a - b else a * b
def opO (op a : Int) (x : Bool) (b : Int) (y : Bool) : Bool := x || y || !decide (I64 (opR op a b))
def opN (op a : Int) (x : Bool) (b : Int) (y : Bool) : Int := if opO op a x b y = true then 0 else opR op a b
/-- A value that may be. -/
def Val (a : Int) (x : Bool) : Prop := I64 a ∧ (x = true → a = 0)
theorem Val.or {a : Int} {x : Bool} (h : Val a x) : x = false ∨ a = 0 := by
  cases x
  · exact .inl rfl
  · exact .inr (h.2 rfl)
theorem opN_val (op a : Int) (x : Bool) (b : Int) (y : Bool) : Val (opN op a x b y) (opO op a x b y) := by
  unfold opN
  cases h : opO op a x b y
  · rw [if_neg (by simp)]
    refine ⟨?_, by simp⟩
    unfold opO at h
    simp only [Bool.or_eq_false_iff, Bool.not_eq_false', decide_eq_true_eq] at h
    exact h.2
  · rw [if_pos rfl]; exact ⟨⟨by omega, by omega⟩, fun _ => rfl⟩

theorem do_val (op a b : Int) (x y : Bool) (h1 : 1 ≤ op) (h2 : op ≤ 3) (ha : Val a x) (hb : Val b y) (w : World) :
    Calls Try.prog 16 #[.int .i64 op, .agg #[.int .i64 a, .bool x], .agg #[.int .i64 b, .bool y]] w fun e w' =>
      e = .returned (.tuple #[.agg #[.int .i64 (opN op a x b y), .bool (opO op a x b y)], .int .i64 0]) ∧ Below w.heap.size w w' := by
  by_cases h : x = true ∨ y = true
  · have e : opO op a x b y = true := by unfold opO; rcases h with rfl | rfl <;> simp
    unfold opN
    rw [e, if_pos rfl]
    exact do_over op a b x y h1 h2 ha.or hb.or h w
  · obtain ⟨rfl, rfl⟩ : x = false ∧ y = false := by cases x <;> cases y <;> simp_all
    clear h
    have fin : ∀ e w', DoPost (opR op a b) w e w' → e = .returned (.tuple #[.agg #[.int .i64 (opN op a false b false), .bool (opO op a false b false)], .int .i64 0]) ∧ Below w.heap.size w w' := fun e w' ⟨g1, g2, g3⟩ => by
      refine ⟨?_, g3⟩
      unfold opN opO
      by_cases hf : I64 (opR op a b)
      · rw [g1 hf]; simp [hf]
      · rw [g2 hf]; simp [hf]
    have hop : op = 1 ∨ op = 2 ∨ op = 3 := by omega
    rcases hop with rfl | rfl | rfl
    · exact (do_add a b ha.1 hb.1 w).mono fin
    · exact (do_sub a b ha.1 hb.1 w).mono fin
    · exact (do_mul a b ha.1 hb.1 w).mono fin

/-- The law's do. -/
theorem ldo_any (op a b : Int) (x y : Bool) (h1 : 1 ≤ op) (h2 : op ≤ 3) (ha : Val a x) (hb : Val b y) (w : World) :
    Calls Try.prog 17 #[.int .i64 op, .agg #[.int .i64 a, .bool x], .agg #[.int .i64 b, .bool y]] w fun e w' =>
      e = .returned (.agg #[.int .i64 (opN op a x b y), .bool (opO op a x b y)]) ∧ Below w.heap.size w w' := by
  have CD := Lib.hid (fun W => do_val op a b x y h1 h2 ha hb W)
  clear ha hb h1 h2
  have HB := Below.refl (boxes w [Obj.cells #[.int .i64 a, .bool x] 25, .cells #[.int .i64 b, .bool y] 25, .cells #[.int .i64 0, .bool false] 25]).heap.size (boxes w [Obj.cells #[.int .i64 a, .bool x] 25, .cells #[.int .i64 b, .bool y] 25, .cells #[.int .i64 0, .bool false] 25])
  go_enter Try.func17, Try.ntmps17
  go_wp2_with fail; refine (CD.out _).mono ?_; rintro e w1 ⟨rfl, hb1⟩; replace HB := HB.trans (hb1.mono HB.size); clear hb1
  have k1 : w1.cell? ⟨w.heap.size + 2, 0, none⟩ = some (.int .i64 0) := box_cell HB 2 0 rfl rfl _ rfl; have k2 : w1.cell? ⟨w.heap.size + 2, 1, none⟩ = some (.bool false) := box_cell HB 2 1 rfl rfl _ rfl; have k3 : w1.frozen? ⟨w.heap.size + 2, 0, none⟩ = false := box_free HB 2 0 rfl _ rfl; have k4 : w1.frozen? ⟨w.heap.size + 2, 1, none⟩ = false := box_free HB 2 1 rfl _ rfl
  have k9 := box_lt HB 2 (by simp)
  go_wp2_with fail
  refine bodyPost_ret (v := .agg #[.int .i64 (opN op a x b y), .bool (opO op a x b y)]) (by simp only [results, Try.results17]; go_simp) rfl ⟨rfl, ?_⟩; repeat (first | exact box_base HB | refine below_alloc ?_ _ | refine Below.setCell ?_ (by dsimp only; omega) _ | refine Below.drew ?_)

theorem opO_false {op a b : Int} {x y : Bool} (h : opO op a x b y = false) : x = false ∧ y = false ∧ I64 (opR op a b) ∧ opN op a x b y = opR op a b := by
  have h' := h
  unfold opO at h
  simp only [Bool.or_eq_false_iff, Bool.not_eq_false', decide_eq_true_eq] at h
  exact ⟨h.1.1, h.1.2, h.2, by unfold opN; rw [h']; simp⟩
theorem ring_assoc {op a b c : Int} {x y z : Bool} (hop : op = 1 ∨ op = 3) (h1 : opO op (opN op a x b y) (opO op a x b y) c z = false) (h2 : opO op a x (opN op b y c z) (opO op b y c z) = false) :
    opN op (opN op a x b y) (opO op a x b y) c z = opN op a x (opN op b y c z) (opO op b y c z) := by
  obtain ⟨a1, a2, a3, a4⟩ := opO_false h1
  obtain ⟨b1, b2, b3, b4⟩ := opO_false h2
  obtain ⟨_, _, _, a8⟩ := opO_false a1
  obtain ⟨_, _, _, b8⟩ := opO_false b2
  rw [a4, b4, a8, b8]
  unfold opR
  rcases hop with rfl | rfl
  · simp only [if_true]; omega
  · rw [if_neg (by decide), if_neg (by decide)]; exact Int.mul_assoc _ _ _
theorem ring_distr {a b c : Int} {x y z : Bool} (h1 : opO 3 a x (opN 1 b y c z) (opO 1 b y c z) = false) (h2 : opO 1 (opN 3 a x b y) (opO 3 a x b y) (opN 3 a x c z) (opO 3 a x c z) = false) :
    opN 3 a x (opN 1 b y c z) (opO 1 b y c z) = opN 1 (opN 3 a x b y) (opO 3 a x b y) (opN 3 a x c z) (opO 3 a x c z) := by
  obtain ⟨a1, a2, a3, a4⟩ := opO_false h1
  obtain ⟨b1, b2, b3, b4⟩ := opO_false h2
  obtain ⟨_, _, _, a8⟩ := opO_false a2
  obtain ⟨_, _, _, b8⟩ := opO_false b1
  obtain ⟨_, _, _, c8⟩ := opO_false b2
  rw [a4, b4, a8, b8, c8]
  unfold opR
  simp only [if_true]
  rw [if_neg (by decide), if_neg (by decide), if_neg (by decide), if_neg (by decide), if_neg (by decide), if_neg (by decide)]
  exact Int.mul_add _ _ _
theorem ret_true {b : Bool} (h : b = true) : Ending.returned (.bool b) = .returned (.bool true) := by rw [h]
theorem opO_left (op a b : Int) (y : Bool) : opO op a true b y = true := by unfold opO; simp
theorem opO_right (op a b : Int) (x : Bool) : opO op a x b true = true := by unfold opO; simp

set_option maxHeartbeats 4000000 in
theorem ring_core (a b c : Int) (x y z : Bool) (ha : Val a x) (hb : Val b y) (hc : Val c z) (w : World) :
    Calls Try.prog 4 #[.agg #[.int .i64 a, .bool x], .agg #[.int .i64 b, .bool y], .agg #[.int .i64 c, .bool z]] w fun e w' => e = .returned (.bool true) ∧ Below w.heap.size w w' := by
  have HB := Below.refl (boxes w [Obj.cells #[.int .i64 a, .bool x] 25, .cells #[.int .i64 b, .bool y] 25, .cells #[.int .i64 c, .bool z] 25]).heap.size (boxes w [Obj.cells #[.int .i64 a, .bool x] 25, .cells #[.int .i64 b, .bool y] 25, .cells #[.int .i64 c, .bool z] 25])
  have CA := Lib.hid (fun W => check_ok a x ha.or W)
  have CB := Lib.hid (fun W => check_ok b y hb.or W)
  have CC := Lib.hid (fun W => check_ok c z hc.or W)
  go_enter Try.func4, Try.ntmps4
  go_wp2_with fail; refine (lives_any _).mono ?_; rintro e w1 ⟨rfl, hb1⟩; replace HB := HB.trans (hb1.mono HB.size); clear hb1
  have k1 : w1.cell? ⟨w.heap.size, 0, none⟩ = some (.int .i64 a) := box_cell HB 0 0 rfl rfl _ rfl; have k2 : w1.cell? ⟨w.heap.size, 1, none⟩ = some (.bool x) := box_cell HB 0 1 rfl rfl _ rfl
  go_wp2_with fail; refine (CA.out _).mono ?_; rintro e w1 ⟨rfl, hb1⟩; replace HB := HB.trans (hb1.mono HB.size); clear hb1
  have k1 : w1.cell? ⟨w.heap.size + 1, 0, none⟩ = some (.int .i64 b) := box_cell HB 1 0 rfl rfl _ rfl; have k2 : w1.cell? ⟨w.heap.size + 1, 1, none⟩ = some (.bool y) := box_cell HB 1 1 rfl rfl _ rfl
  go_wp2_with fail; refine (CB.out _).mono ?_; rintro e w1 ⟨rfl, hb1⟩; replace HB := HB.trans (hb1.mono HB.size); clear hb1
  have k1 : w1.cell? ⟨w.heap.size + 2, 0, none⟩ = some (.int .i64 c) := box_cell HB 2 0 rfl rfl _ rfl; have k2 : w1.cell? ⟨w.heap.size + 2, 1, none⟩ = some (.bool z) := box_cell HB 2 1 rfl rfl _ rfl
  go_wp2_with fail; refine (CC.out _).mono ?_; rintro e w1 ⟨rfl, hb1⟩; replace HB := HB.trans (hb1.mono HB.size); clear hb1
  go_wp2_with fail
  have HC := Lib.hid (And.intro ha (And.intro hb hc))
  clear ha hb hc CA CB CC k1 k2
  go_loopw [7] (fun o wr => ∃ op : Int, (op = 1 ∨ op = 3 ∨ op = 5) ∧ o = .int .i64 op ∧ Below (boxes w [Obj.cells #[.int .i64 a, .bool x] 25, .cells #[.int .i64 b, .bool y] 25, .cells #[.int .i64 c, .bool z] 25]).heap.size (boxes w [Obj.cells #[.int .i64 a, .bool x] 25, .cells #[.int .i64 b, .bool y] 25, .cells #[.int .i64 c, .bool z] 25]) wr) (fun o _ => (5 - intOf o).toNat)
  case atStart => exact ⟨1, by omega, rfl, HB⟩
  case round =>
    obtain ⟨op, hop, rfl, HB⟩ := hrel
    by_cases h5 : op = 5
    · subst h5
      clear hop
      go_wp2_with fail
      refine wp_region_perm 14 [(0, false), (1, false), (2, false), (3, false), (4, false), (5, false), (6, false), (7, false), (8, false), (9, false), (10, false), (11, false), (12, true), (13, true)] (fun _ => .cells #[.int .i64 0, .bool false] 25)
        (Below (boxes w [Obj.cells #[.int .i64 a, .bool x] 25, .cells #[.int .i64 b, .bool y] 25, .cells #[.int .i64 c, .bool z] 25]).heap.size (boxes w [Obj.cells #[.int .i64 a, .bool x] 25, .cells #[.int .i64 b, .bool y] 25, .cells #[.int .i64 c, .bool z] 25])) (by kernel_rfl) (by kernel_rfl) (Stab.below _ _ (Nat.le_refl _)) HB.drew ?_
      have CV := Lib.hid (fun (o p q : Int) (u v : Bool) (h1 : 1 ≤ o) (h2 : o ≤ 3) (hp : Val p u) (hq : Val q v) W => ldo_any o p q u v h1 h2 hp hq W)
      repeat (refine wpP_q rfl rfl rfl ?_; apply Exists.intro; refine ⟨fun w' hw' => ?_, fun K hK => ?_⟩; (focus (have k1 : w'.cell? ⟨w.heap.size, 0, none⟩ = some (.int .i64 a) := box_cell hw' 0 0 rfl rfl _ rfl; have k2 : w'.cell? ⟨w.heap.size, 1, none⟩ = some (.bool x) := box_cell hw' 0 1 rfl rfl _ rfl; have k3 : w'.cell? ⟨w.heap.size + 1, 0, none⟩ = some (.int .i64 b) := box_cell hw' 1 0 rfl rfl _ rfl; have k4 : w'.cell? ⟨w.heap.size + 1, 1, none⟩ = some (.bool y) := box_cell hw' 1 1 rfl rfl _ rfl; have k5 : w'.cell? ⟨w.heap.size + 2, 0, none⟩ = some (.int .i64 c) := box_cell hw' 2 0 rfl rfl _ rfl; have k6 : w'.cell? ⟨w.heap.size + 2, 1, none⟩ = some (.bool z) := box_cell hw' 2 1 rfl rfl _ rfl; go_simp; first | exact quiet_value | (refine quiet_enter (CV.out _ _ _ _ _ ?_ ?_ ?_ ?_ _) <;> first | omega | exact HC.out.1 | exact HC.out.2.1 | exact HC.out.2.2 | exact opN_val _ _ _ _ _))); simp only [Act.put, List.setIfInBounds_toArray, List.set_cons_zero, List.set_cons_succ]; refine hK.out _ ?_; clear hK K)
      refine wpP_alloc rfl rfl (fun w => by kernel_rfl) (fun K hK b1 f1 => ?_); simp only [Act.put, List.setIfInBounds_toArray, List.set_cons_zero, List.set_cons_succ]; refine hK.out _ _ _ ?_; clear hK K
      refine wpP_alloc rfl rfl (fun w => by kernel_rfl) (fun K hK b2 f2 => ?_); simp only [Act.put, List.setIfInBounds_toArray, List.set_cons_zero, List.set_cons_succ]; refine hK.out _ _ _ ?_; clear hK K
      refine wpP_nil ?_
      rintro w1 ⟨⟨HB1, hb1⟩, hb2⟩
      have hne : ¬ b2 = b1 := fun e => f2.2 (by rw [e]; exact List.mem_cons_self); have hs := HB.size; rw [boxes_size] at hs; simp only [List.length_cons, List.length_nil, Nat.zero_add, Nat.reduceAdd] at hs; have hl1 := Nat.le_trans hs f1.1; have hl2 := Nat.le_trans hs f2.1; have g1 := cellAt hb1 (o := 0) rfl; have g2 := cellAt hb1 (o := 1) rfl; have g3 := freeAt 0 hb1; have g4 := freeAt 1 hb1; have g5 := cellAt hb2 (o := 0) rfl; have g6 := cellAt hb2 (o := 1) rfl; have g7 := freeAt 0 hb2; have g8 := freeAt 1 hb2; clear hb1 hb2 f1 f2
      have k1 : w1.cell? ⟨w.heap.size, 1, none⟩ = some (.bool x) := box_cell HB1 0 1 rfl rfl _ rfl
      have k2 : w1.cell? ⟨w.heap.size + 1, 1, none⟩ = some (.bool y) := box_cell HB1 1 1 rfl rfl _ rfl
      have k3 : w1.cell? ⟨w.heap.size + 2, 1, none⟩ = some (.bool z) := box_cell HB1 2 1 rfl rfl _ rfl
      simp only [List.drop_succ_cons, List.drop_zero, ptrTo]
      have HB2 := Lib.hid HB1
      clear HB1
      go_wp2_with fail
      all_goals first
        | (exfalso
           have h1 : ¬ opO 3 a x (opN 1 b y c z) (opO 1 b y c z) = true := by assumption
           have h2 : ¬ opO 1 (opN 3 a x b y) (opO 3 a x b y) (opN 3 a x c z) (opO 3 a x c z) = true := by assumption
           have h3 : ¬ opN 3 a x (opN 1 b y c z) (opO 1 b y c z) = opN 1 (opN 3 a x b y) (opO 3 a x b y) (opN 3 a x c z) (opO 3 a x c z) := by assumption
           exact h3 (ring_distr (by simpa using h1) (by simpa using h2)))
        | (go_ret
           refine ⟨ret_true ?_, ?_⟩
           (focus (first
             | rfl
             | (simp [opO]; done)
             | (exfalso
                have h1 : ¬ opO 3 a x (opN 1 b y c z) (opO 1 b y c z) = true := by assumption
                exact h1 (by
                  have hx : x = true ∨ y = true ∨ z = true := by first | exact .inl ‹x = true› | exact .inr (.inl ‹y = true›) | exact .inr (.inr ‹z = true›)
                  rcases hx with rfl | rfl | rfl <;> simp [opO]))))
           have HB := HB2.out
           have HB' := box_base HB
           repeat (first | exact HB' | refine Below.setCell ?_ (by dsimp only; omega) _))
    · have hop1 : 1 ≤ op := by omega
      have hop2 : op ≤ 3 := by omega
      clear h5
      have HOP := Lib.hid hop
      clear hop
      go_wp2_with fail
      refine wp_region_perm 16 [(0, false), (1, false), (2, false), (3, false), (4, false), (5, false), (6, false), (7, false), (8, false), (9, false), (10, false), (11, false), (12, false), (13, false), (14, true), (15, true)] (fun _ => .cells #[.int .i64 0, .bool false] 25)
        (Below (boxes w [Obj.cells #[.int .i64 a, .bool x] 25, .cells #[.int .i64 b, .bool y] 25, .cells #[.int .i64 c, .bool z] 25]).heap.size (boxes w [Obj.cells #[.int .i64 a, .bool x] 25, .cells #[.int .i64 b, .bool y] 25, .cells #[.int .i64 c, .bool z] 25])) (by kernel_rfl) (by kernel_rfl) (Stab.below _ _ (Nat.le_refl _)) HB.drew ?_
      have CV := Lib.hid (fun (o p q : Int) (u v : Bool) (h1 : 1 ≤ o) (h2 : o ≤ 3) (hp : Val p u) (hq : Val q v) W => ldo_any o p q u v h1 h2 hp hq W)
      repeat (refine wpP_q rfl rfl rfl ?_; apply Exists.intro; refine ⟨fun w' hw' => ?_, fun K hK => ?_⟩; (focus (have k1 : w'.cell? ⟨w.heap.size, 0, none⟩ = some (.int .i64 a) := box_cell hw' 0 0 rfl rfl _ rfl; have k2 : w'.cell? ⟨w.heap.size, 1, none⟩ = some (.bool x) := box_cell hw' 0 1 rfl rfl _ rfl; have k3 : w'.cell? ⟨w.heap.size + 1, 0, none⟩ = some (.int .i64 b) := box_cell hw' 1 0 rfl rfl _ rfl; have k4 : w'.cell? ⟨w.heap.size + 1, 1, none⟩ = some (.bool y) := box_cell hw' 1 1 rfl rfl _ rfl; have k5 : w'.cell? ⟨w.heap.size + 2, 0, none⟩ = some (.int .i64 c) := box_cell hw' 2 0 rfl rfl _ rfl; have k6 : w'.cell? ⟨w.heap.size + 2, 1, none⟩ = some (.bool z) := box_cell hw' 2 1 rfl rfl _ rfl; go_simp; first | exact quiet_value | (refine quiet_enter (CV.out _ _ _ _ _ ?_ ?_ ?_ ?_ _) <;> first | exact hop1 | exact hop2 | exact HC.out.1 | exact HC.out.2.1 | exact HC.out.2.2 | exact opN_val _ _ _ _ _))); simp only [Act.put, List.setIfInBounds_toArray, List.set_cons_zero, List.set_cons_succ]; refine hK.out _ ?_; clear hK K)
      refine wpP_alloc rfl rfl (fun w => by kernel_rfl) (fun K hK b1 f1 => ?_); simp only [Act.put, List.setIfInBounds_toArray, List.set_cons_zero, List.set_cons_succ]; refine hK.out _ _ _ ?_; clear hK K
      refine wpP_alloc rfl rfl (fun w => by kernel_rfl) (fun K hK b2 f2 => ?_); simp only [Act.put, List.setIfInBounds_toArray, List.set_cons_zero, List.set_cons_succ]; refine hK.out _ _ _ ?_; clear hK K
      refine wpP_nil ?_
      rintro w1 ⟨⟨HB1, hb1⟩, hb2⟩
      have hne : ¬ b2 = b1 := fun e => f2.2 (by rw [e]; exact List.mem_cons_self); have hs := HB.size; rw [boxes_size] at hs; simp only [List.length_cons, List.length_nil, Nat.zero_add, Nat.reduceAdd] at hs; have hl1 := Nat.le_trans hs f1.1; have hl2 := Nat.le_trans hs f2.1; have g1 := cellAt hb1 (o := 0) rfl; have g2 := cellAt hb1 (o := 1) rfl; have g3 := freeAt 0 hb1; have g4 := freeAt 1 hb1; have g5 := cellAt hb2 (o := 0) rfl; have g6 := cellAt hb2 (o := 1) rfl; have g7 := freeAt 0 hb2; have g8 := freeAt 1 hb2; clear hb1 hb2 f1 f2
      simp only [List.drop_succ_cons, List.drop_zero, ptrTo]
      have hr : opO op (opN op a x b y) (opO op a x b y) c z = false → opO op a x (opN op b y c z) (opO op b y c z) = false → opN op (opN op a x b y) (opO op a x b y) c z = opN op a x (opN op b y c z) (opO op b y c z) := ring_assoc (by have := HOP.out; omega)
      have HR := Lib.hid hr
      clear hr
      have HB2 := Lib.hid HB1
      go_wp2_with fail
      all_goals first
        | (go_roundw
           case rel => exact ⟨op + 2, by have := HOP.out; omega, by go_num, by
             have HB := HB2.out
             repeat (first | exact HB | refine Below.setCell ?_ (by rw [boxes_size]; simp; omega) _)⟩
           case measure => simp [intOf]; omega)
        | (exfalso
           have h1 : ¬ opO op (opN op a x b y) (opO op a x b y) c z = true := by assumption
           have h2 : ¬ opO op a x (opN op b y c z) (opO op b y c z) = true := by assumption
           have h3 : ¬ opN op (opN op a x b y) (opO op a x b y) c z = opN op a x (opN op b y c z) (opO op b y c z) := by assumption
           exact h3 (HR.out (by simpa using h1) (by simpa using h2)))

theorem val_of {a : Int} {x : Bool} (h : I64 a) (hb : ¬ (x = true ∧ a ≠ 0)) : Val a x := ⟨h, fun hx => Decidable.byContradiction fun ha => hb ⟨hx, ha⟩⟩

set_option maxHeartbeats 1000000 in
theorem ring_any (a b c : Int) (x y z : Bool) (ha : I64 a) (hb : I64 b) (hc : I64 c) (w : World) :
    Calls Try.prog 4 #[.agg #[.int .i64 a, .bool x], .agg #[.int .i64 b, .bool y], .agg #[.int .i64 c, .bool z]] w fun e w' => e = .returned (.bool true) ∧ Below w.heap.size w w' := by
  by_cases h1 : x = true ∧ a ≠ 0
  · obtain ⟨rfl, h1⟩ := h1
    have HB := Below.refl (boxes w [Obj.cells #[.int .i64 a, .bool true] 25, .cells #[.int .i64 b, .bool y] 25, .cells #[.int .i64 c, .bool z] 25]).heap.size (boxes w [Obj.cells #[.int .i64 a, .bool true] 25, .cells #[.int .i64 b, .bool y] 25, .cells #[.int .i64 c, .bool z] 25])
    have CA := Lib.hid (fun W => check_bad a h1 W)
    clear h1
    go_enter Try.func4, Try.ntmps4
    go_wp2_with fail; refine (lives_any _).mono ?_; rintro e w1 ⟨rfl, hb1⟩; replace HB := HB.trans (hb1.mono HB.size); clear hb1
    have k1 : w1.cell? ⟨w.heap.size, 0, none⟩ = some (.int .i64 a) := box_cell HB 0 0 rfl rfl _ rfl; have k2 : w1.cell? ⟨w.heap.size, 1, none⟩ = some (.bool true) := box_cell HB 0 1 rfl rfl _ rfl
    go_wp2_with fail; refine (CA.out _).mono ?_; rintro e w1 ⟨rfl, hb1⟩; replace HB := HB.trans (hb1.mono HB.size); clear hb1
    go_wp2_with fail
    go_ret
    exact ⟨rfl, box_base HB⟩
  by_cases h2 : y = true ∧ b ≠ 0
  · obtain ⟨rfl, h2⟩ := h2
    have HB := Below.refl (boxes w [Obj.cells #[.int .i64 a, .bool x] 25, .cells #[.int .i64 b, .bool true] 25, .cells #[.int .i64 c, .bool z] 25]).heap.size (boxes w [Obj.cells #[.int .i64 a, .bool x] 25, .cells #[.int .i64 b, .bool true] 25, .cells #[.int .i64 c, .bool z] 25])
    have CA := Lib.hid (fun W => check_ok a x (val_of ha h1).or W)
    have CB := Lib.hid (fun W => check_bad b h2 W)
    clear h1 h2
    go_enter Try.func4, Try.ntmps4
    go_wp2_with fail; refine (lives_any _).mono ?_; rintro e w1 ⟨rfl, hb1⟩; replace HB := HB.trans (hb1.mono HB.size); clear hb1
    have k1 : w1.cell? ⟨w.heap.size, 0, none⟩ = some (.int .i64 a) := box_cell HB 0 0 rfl rfl _ rfl; have k2 : w1.cell? ⟨w.heap.size, 1, none⟩ = some (.bool x) := box_cell HB 0 1 rfl rfl _ rfl
    go_wp2_with fail; refine (CA.out _).mono ?_; rintro e w1 ⟨rfl, hb1⟩; replace HB := HB.trans (hb1.mono HB.size); clear hb1
    have k1 : w1.cell? ⟨w.heap.size + 1, 0, none⟩ = some (.int .i64 b) := box_cell HB 1 0 rfl rfl _ rfl; have k2 : w1.cell? ⟨w.heap.size + 1, 1, none⟩ = some (.bool true) := box_cell HB 1 1 rfl rfl _ rfl
    go_wp2_with fail; refine (CB.out _).mono ?_; rintro e w1 ⟨rfl, hb1⟩; replace HB := HB.trans (hb1.mono HB.size); clear hb1
    go_wp2_with fail
    go_ret
    exact ⟨rfl, box_base HB⟩
  by_cases h3 : z = true ∧ c ≠ 0
  · obtain ⟨rfl, h3⟩ := h3
    have HB := Below.refl (boxes w [Obj.cells #[.int .i64 a, .bool x] 25, .cells #[.int .i64 b, .bool y] 25, .cells #[.int .i64 c, .bool true] 25]).heap.size (boxes w [Obj.cells #[.int .i64 a, .bool x] 25, .cells #[.int .i64 b, .bool y] 25, .cells #[.int .i64 c, .bool true] 25])
    have CA := Lib.hid (fun W => check_ok a x (val_of ha h1).or W)
    have CB := Lib.hid (fun W => check_ok b y (val_of hb h2).or W)
    have CC := Lib.hid (fun W => check_bad c h3 W)
    clear h1 h2 h3
    go_enter Try.func4, Try.ntmps4
    go_wp2_with fail; refine (lives_any _).mono ?_; rintro e w1 ⟨rfl, hb1⟩; replace HB := HB.trans (hb1.mono HB.size); clear hb1
    have k1 : w1.cell? ⟨w.heap.size, 0, none⟩ = some (.int .i64 a) := box_cell HB 0 0 rfl rfl _ rfl; have k2 : w1.cell? ⟨w.heap.size, 1, none⟩ = some (.bool x) := box_cell HB 0 1 rfl rfl _ rfl
    go_wp2_with fail; refine (CA.out _).mono ?_; rintro e w1 ⟨rfl, hb1⟩; replace HB := HB.trans (hb1.mono HB.size); clear hb1
    have k1 : w1.cell? ⟨w.heap.size + 1, 0, none⟩ = some (.int .i64 b) := box_cell HB 1 0 rfl rfl _ rfl; have k2 : w1.cell? ⟨w.heap.size + 1, 1, none⟩ = some (.bool y) := box_cell HB 1 1 rfl rfl _ rfl
    go_wp2_with fail; refine (CB.out _).mono ?_; rintro e w1 ⟨rfl, hb1⟩; replace HB := HB.trans (hb1.mono HB.size); clear hb1
    have k1 : w1.cell? ⟨w.heap.size + 2, 0, none⟩ = some (.int .i64 c) := box_cell HB 2 0 rfl rfl _ rfl; have k2 : w1.cell? ⟨w.heap.size + 2, 1, none⟩ = some (.bool true) := box_cell HB 2 1 rfl rfl _ rfl
    go_wp2_with fail; refine (CC.out _).mono ?_; rintro e w1 ⟨rfl, hb1⟩; replace HB := HB.trans (hb1.mono HB.size); clear hb1
    go_wp2_with fail
    go_ret
    exact ⟨rfl, box_base HB⟩
  exact ring_core a b c x y z (val_of ha h1) (val_of hb h2) (val_of hc h3) w
end Go.Proofs.Ytfiinceogenlmaa
