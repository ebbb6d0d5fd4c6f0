/- The makers of a slide: increase, count, last. -/
import Derived.Test.YtbhkgnhgecchcaaSlM
namespace Go.Proofs.Ytbhkgnhgecchcaa
open Go.RowKit
/-! ### increase -/
set_option maxRecDepth 100000 in
theorem inc_push (b : Nat) (t : Int) (g o c : Nat) (P : List Pt) (a x : Pt) (w : World) (hb : GrAt w b t 85) (hr : RPt w (some ⟨g, o, none⟩) (P ++ [a, x])) (ha : In64 a.2) (hx : In64 x.2) (hn : P.length ≤ 1099511627776) :
    Calls Try.prog 109 #[ptrTo b, .slice (some ⟨g, o, none⟩) (P.length + 2) c] w fun e w' => e = .returned (.tuple #[]) ∧ GrAt w' b (w128 (t + stepN a.2 x.2)) 85 ∧ Only (fun k => k = b) w w' := by
  obtain ⟨hg, hp⟩ := hr.pt (k := P.length) (by simp)
  obtain ⟨_, hp2⟩ := hr.pt (k := P.length + 1) (by simp)
  simp only [List.getElem_append_right (Nat.le_refl _), Nat.sub_self, List.getElem_cons_zero] at hp
  rw [List.getElem_append_right (by omega)] at hp2
  simp only [Nat.add_sub_cancel_left, List.getElem_cons_succ, List.getElem_cons_zero] at hp2
  obtain ⟨at_, an⟩ := a
  obtain ⟨xt, xn⟩ := x
  simp only at *
  have CS := Lib.hid (fun W => step_any at_ an xt xn ha hx W)
  have CB := Lib.hid (fun W => both_any t (w128 (stepN an xn)) 0 0 W)
  rw [show lo64 (0 + 0) = 0 by decide, w128_add'] at CB
  have HB := Lib.hid hb
  have HP := Lib.hid hp
  have HP2 := Lib.hid hp2
  have HG := Lib.hid hg
  clear hb hp hp2 hr hg hx ha
  generalize P.length = n at *
  have hwr : IntKind.i64.wrap (n : Int) = (n : Int) := by rw [IntKind.wrap_i64]; omega
  have hwr2 : IntKind.i64.wrap ((n : Int) + 2 - 1) = (n : Int) + 1 := by rw [IntKind.wrap_i64]; omega
  have h11 : (1 : Int) < (n : Int) + 2 := by omega
  have hix : (n : Int) < (n : Int) + 2 := by omega
  have hix2 : (n : Int) + 1 < (n : Int) + 2 := by omega
  have hn0 : (0 : Int) ≤ (n : Int) + 1 := by omega
  have hn1 : ((n : Int) + 1).toNat = n + 1 := by omega
  unfold ptrTo
  go_enter Try.func109, Try.ntmps109
  go_wp2_with fail
  refine wp_region_here 19 [(0, false), (1, false), (2, false), (3, false), (4, false), (5, false), (6, false), (7, false), (8, false), (9, false), (10, false), (11, false), (12, false), (13, false), (14, false), (15, false), (16, false), (17, false), (18, false)] (fun _ => .cells #[] 0) (by kernel_rfl) (by kernel_rfl) ?_
  repeat (first | (refine wpP_q rfl rfl rfl ?_; apply Exists.intro; refine ⟨fun w' hw' => ?_, fun K hK => ?_⟩; (focus ((have q0 := HB.out; have hz := hw'; have k0 := cellAt (o := 0) (keepB q0 hz) rfl; have k1 := cellAt (o := 1) (keepB q0 hz) rfl; have k2 := cellAt (o := 2) (keepB q0 hz) rfl; have qp := HP.out.below HG.out hz; have qr := HP2.out.below HG.out hz; unfold PtAt at qp qr; obtain ⟨p0, p1, p2⟩ := qp; obtain ⟨r0, r1, r2⟩ := qr; clear q0 hz); go_simp; first | exact quiet_value | first | with_reducible exact quiet_enter (CS.out _) | with_reducible exact quiet_enter (CB.out _))); simp only [Act.put, List.setIfInBounds_toArray, List.set_cons_zero, List.set_cons_succ]; refine hK.out _ ?_; clear hK K) | (refine wpP_skip rfl rfl rfl (fun K hK => ?_); simp only [Act.put, List.setIfInBounds_toArray, List.set_cons_zero, List.set_cons_succ]; refine hK.out _ ?_; clear hK K))
  refine wpP_nil ?_
  intro w1 HB1
  have k9 := keepB HB.out HB1
  have HK := Lib.hid k9
  have f0 := freeAt 0 k9
  have f1 := freeAt 1 k9
  have f2 := freeAt 2 k9
  have k0 := cellAt (o := 0) k9 rfl
  have k1 := cellAt (o := 1) k9 rfl
  have k2 := cellAt (o := 2) k9 rfl
  have HW := Lib.hid HB1
  clear k9 HB1
  try simp only [List.drop_succ_cons, List.drop_zero]
  go_wp2_with fail
  go_end0
  refine ⟨rfl, ?_, (Only.of_below HW.out).trans (((Only.set _ _ _ _).trans (Only.set _ _ _ _)).trans (Only.set _ _ _ _))⟩
  unfold GrAt
  rw [setCell_get (setCell_get (setCell_get HK.out))]
  rfl
theorem w128_sub' (s t : Int) : w128 (s - w128 t) = w128 (s - t) := by unfold w128; omega
set_option maxRecDepth 100000 in
theorem inc_pop (b : Nat) (t : Int) (g o c n : Nat) (P : List Pt) (a x : Pt) (w : World) (hb : GrAt w b t 85) (hr : RPt w (some ⟨g, o, none⟩) (a :: x :: P)) (ha : In64 a.2) (hx : In64 x.2) (hn : n = (a :: x :: P).length) :
    Calls Try.prog 108 #[ptrTo b, .slice (some ⟨g, o, none⟩) n c] w fun e w' => e = .returned (.tuple #[]) ∧ GrAt w' b (w128 (t - stepN a.2 x.2)) 85 ∧ Only (fun k => k = b) w w' := by
  obtain ⟨hg, hp⟩ := hr.pt (k := 0) (by simp)
  obtain ⟨_, hp2⟩ := hr.pt (k := 1) (by simp)
  simp only [List.getElem_cons_zero, Nat.zero_mul, Nat.add_zero] at hp
  simp only [List.getElem_cons_succ, List.getElem_cons_zero, Nat.one_mul] at hp2
  obtain ⟨at_, an⟩ := a
  obtain ⟨xt, xn⟩ := x
  simp only at *
  have CS := Lib.hid (fun W => step_any at_ an xt xn ha hx W)
  have CB := Lib.hid (fun W => without_any t (w128 (stepN an xn)) (w128_I _) W)
  rw [w128_sub'] at CB
  have HB := Lib.hid hb
  have HP := Lib.hid hp
  have HP2 := Lib.hid hp2
  have HG := Lib.hid hg
  have h0 : 0 < n := by rw [hn]; simp
  have h1 : (1 : Int) < (n : Int) := by rw [hn]; simp; omega
  clear hb hp hp2 hr hg hx ha hn
  unfold ptrTo
  unfold gv0 at *
  go_enter Try.func108, Try.ntmps108
  go_wp2_with fail
  refine wp_region_here 15 [(0, false), (1, false), (2, false), (3, false), (4, false), (5, false), (6, false), (7, false), (8, false), (9, false), (10, false), (11, false), (12, false), (13, false), (14, false)] (fun _ => .cells #[] 0) (by kernel_rfl) (by kernel_rfl) ?_
  repeat (first | (refine wpP_q rfl rfl rfl ?_; apply Exists.intro; refine ⟨fun w' hw' => ?_, fun K hK => ?_⟩; (focus ((have q0 := HB.out; have hz := hw'; have k0 := cellAt (o := 0) (keepB q0 hz) rfl; have k1 := cellAt (o := 1) (keepB q0 hz) rfl; have k2 := cellAt (o := 2) (keepB q0 hz) rfl; have qp := HP.out.below HG.out hz; have qr := HP2.out.below HG.out hz; unfold PtAt at qp qr; obtain ⟨p0, p1, p2⟩ := qp; obtain ⟨r0, r1, r2⟩ := qr; clear q0 hz); go_simp; first | exact quiet_value | first | with_reducible exact quiet_enter (CS.out _) | with_reducible exact quiet_enter (CB.out _))); simp only [Act.put, List.setIfInBounds_toArray, List.set_cons_zero, List.set_cons_succ]; refine hK.out _ ?_; clear hK K) | (refine wpP_skip rfl rfl rfl (fun K hK => ?_); simp only [Act.put, List.setIfInBounds_toArray, List.set_cons_zero, List.set_cons_succ]; refine hK.out _ ?_; clear hK K))
  refine wpP_nil ?_
  intro w1 HB1
  have k9 := keepB HB.out HB1
  have HK := Lib.hid k9
  have f0 := freeAt 0 k9
  have f1 := freeAt 1 k9
  have f2 := freeAt 2 k9
  have k0 := cellAt (o := 0) k9 rfl
  have k1 := cellAt (o := 1) k9 rfl
  have k2 := cellAt (o := 2) k9 rfl
  have HW := Lib.hid HB1
  clear k9 HB1
  try simp only [List.drop_succ_cons, List.drop_zero]
  go_wp2_with fail
  go_end0
  refine ⟨rfl, ?_, (Only.of_below HW.out).trans (((Only.set _ _ _ _).trans (Only.set _ _ _ _)).trans (Only.set _ _ _ _))⟩
  unfold GrAt
  rw [setCell_get (setCell_get (setCell_get HK.out))]
  rfl
theorem inc_push1 (b : Nat) (A : Option Addr) (c : Nat) (w : World) :
    Calls Try.prog 109 #[ptrTo b, .slice A 1 c] w fun e w' => e = .returned (.tuple #[]) ∧ w = w' := by
  go_enter Try.func109, Try.ntmps109
  go_wp2_with fail
  go_end0
  exact ⟨rfl, rfl⟩
theorem inc_pop1 (b : Nat) (A : Option Addr) (c : Nat) (w : World) :
    Calls Try.prog 108 #[ptrTo b, .slice A 1 c] w fun e w' => e = .returned (.tuple #[]) ∧ w = w' := by
  go_enter Try.func108, Try.ntmps108
  go_wp2_with fail
  go_end0
  exact ⟨rfl, rfl⟩
/-! ### count, last -/
theorem count_push (sl : Value) (w : World) : Calls Try.prog 99 #[.agg #[], sl] w fun e w' => e = .returned (.tuple #[]) ∧ Below w.heap.size w w' := by
  go_enter Try.func99, Try.ntmps99
  go_wp2_with fail
  go_end0
  exact ⟨rfl, below_alloc (Below.refl _ _) _⟩
theorem count_pop (sl : Value) (w : World) : Calls Try.prog 98 #[.agg #[], sl] w fun e w' => e = .returned (.tuple #[]) ∧ Below w.heap.size w w' := by
  go_enter Try.func98, Try.ntmps98
  go_wp2_with fail
  go_end0
  exact ⟨rfl, below_alloc (Below.refl _ _) _⟩
theorem last_push (sl : Value) (w : World) : Calls Try.prog 106 #[.agg #[], sl] w fun e w' => e = .returned (.tuple #[]) ∧ Below w.heap.size w w' := by
  go_enter Try.func106, Try.ntmps106
  go_wp2_with fail
  go_end0
  exact ⟨rfl, below_alloc (Below.refl _ _) _⟩
theorem last_pop (sl : Value) (w : World) : Calls Try.prog 105 #[.agg #[], sl] w fun e w' => e = .returned (.tuple #[]) ∧ Below w.heap.size w w' := by
  go_enter Try.func105, Try.ntmps105
  go_wp2_with fail
  go_end0
  exact ⟨rfl, below_alloc (Below.refl _ _) _⟩
theorem box2 (w : World) (A B : Obj) : ((w.alloc A).alloc B).heap[w.heap.size]? = some A ∧ ((w.alloc A).alloc B).heap[w.heap.size + 1]? = some B ∧ Below w.heap.size w ((w.alloc A).alloc B) := by
  refine ⟨keepA (newB w A) B, ?_, below_alloc (below_alloc (Below.refl _ _) _) _⟩
  have := newB (w.alloc A) B
  rwa [alloc_size] at this
theorem count_value (A : Option Addr) (n c : Nat) (w : World) : Calls Try.prog 100 #[.agg #[], .slice A n c] w fun e w' => e = .returned (.agg #[.int .i64 n, .bool false]) ∧ Below w.heap.size w w' := by
  obtain ⟨h0, h1, h2⟩ := box2 w (.cells #[] 79) (.cells #[.int .i64 0, .bool false] 25)
  have CO := Lib.hid (fun W => of_any n W)
  have H1 := Lib.hid h1
  have H2 := Lib.hid h2
  clear h0 h1 h2
  go_enter Try.func100, Try.ntmps100
  go_wp2_with fail
  refine (CO.out _).mono ?_
  rintro e w1 ⟨rfl, hb⟩
  have k9 := keepB H1.out hb
  have m0 := cellAt (o := 0) k9 rfl
  have m1 := cellAt (o := 1) k9 rfl
  have f0 := freeAt 0 k9
  have f1 := freeAt 1 k9
  have HF := Lib.hid (H2.out.trans (hb.mono H2.out.size))
  clear hb k9
  go_wp2_with fail
  exact bodyPost_ret (v := .agg #[.int .i64 n, .bool false]) (by simp only [results, Try.results100]; go_simp) rfl ⟨rfl, (HF.out.setCell (by dsimp only; omega) _).setCell (by dsimp only; omega) _⟩
theorem last_value (g o c : Nat) (P : List Pt) (x : Pt) (w : World) (hr : RPt w (some ⟨g, o, none⟩) (P ++ [x])) (hn : P.length ≤ 1099511627776) : Calls Try.prog 107 #[.agg #[], .slice (some ⟨g, o, none⟩) (P.length + 1) c] w fun e w' => e = .returned (.agg #[.int .i64 x.2, .bool false]) ∧ Below w.heap.size w w' := by
  obtain ⟨h0, h1, h2⟩ := box2 w (.cells #[] 83) (.cells #[.int .i64 0, .bool false] 25)
  obtain ⟨hg, hp⟩ := hr.pt (k := P.length) (by simp)
  simp only [List.getElem_append_right (Nat.le_refl _), Nat.sub_self, List.getElem_cons_zero] at hp
  have hp2 := hp.below hg h2
  unfold PtAt at hp2
  obtain ⟨p0, p1, p2⟩ := hp2
  obtain ⟨xt, xn⟩ := x
  simp only at *
  generalize P.length = n at *
  have hix : (n : Int) < (n : Int) + 1 := by omega
  have m0 := cellAt (o := 0) h1 rfl
  have m1 := cellAt (o := 1) h1 rfl
  have f0 := freeAt 0 h1
  have f1 := freeAt 1 h1
  have H2 := Lib.hid h2
  clear h0 h1 h2 hr hp hg
  go_enter Try.func107, Try.ntmps107
  go_wp2_with fail
  exact bodyPost_ret (v := .agg #[.int .i64 xn, .bool false]) (by simp only [results, Try.results107]; go_simp) rfl ⟨rfl, below_alloc (below_alloc (Below.refl _ _) _) _⟩
end Go.Proofs.Ytbhkgnhgecchcaa
