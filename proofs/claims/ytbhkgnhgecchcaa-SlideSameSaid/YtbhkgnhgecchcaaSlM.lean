/- The makers of a slide: contracts of their methods. -/
import Derived.Test.YtbhkgnhgecchcaaSlL
import Derived.Test.YtbhkgnhgecchcaaGreat
import Derived.WalkKit
import Derived.WalkSpells
import Derived.WalkLawsBesides
import Derived.Lib.Hide
import Derived.IntWalk
namespace Go.Proofs.Ytbhkgnhgecchcaa
open Go.RowKit
/-- A point in memory. -/
def PtAt (w : World) (g o : Nat) (p : Pt) : Prop := w.cell? ⟨g, o, none⟩ = some (.int .i64 p.1) ∧ w.cell? ⟨g, o + 1, none⟩ = some (.int .i64 p.2) ∧ w.cell? ⟨g, o + 1 + 1, none⟩ = some (.bool false)
/-- Points in memory. -/
def RPt (w : World) (A : Option Addr) (P : List Pt) : Prop := Reads w w.heap.size 3 A P.length (pcs P)
theorem add_mk (g o j : Nat) : (⟨g, o, none⟩ : Addr).add j = ⟨g, o + j, none⟩ := by unfold Addr.add; split <;> simp_all
theorem RPt.pt {w : World} {g o : Nat} {P : List Pt} (h : RPt w (some ⟨g, o, none⟩) P) {k : Nat} (hk : k < P.length) : g < w.heap.size ∧ PtAt w g (o + k * 3) P[k] := by
  obtain ⟨ad, e, hb, hc⟩ := h.2 (by omega)
  cases e
  obtain ⟨h1, h2, h3⟩ := pcs_get P k hk
  refine ⟨hb, ?_, ?_, ?_⟩
  · rw [← add_mk]; exact hc _ _ h1
  · have := hc _ _ h2
    rwa [add_mk] at this
  · have := hc _ _ h3
    rwa [add_mk] at this
theorem RPt.below {w w' : World} {A : Option Addr} {P : List Pt} (h : RPt w A P) (hb : Below w.heap.size w w') : RPt w' A P := Reads.more (Reads.below h hb) hb.size
theorem PtAt.below {w w' : World} {g o : Nat} {p : Pt} (h : PtAt w g o p) (hg : g < w.heap.size) (hb : Below w.heap.size w w') : PtAt w' g o p :=
  ⟨(hb.cell (p := ⟨g, o, none⟩) hg).trans h.1, (hb.cell (p := ⟨g, o + 1, none⟩) hg).trans h.2.1, (hb.cell (p := ⟨g, o + 1 + 1, none⟩) hg).trans h.2.2⟩
/-- A great sum in a block. -/
def GrAt (w : World) (b : Nat) (t : Int) (T : TypeId) : Prop := w.heap[b]? = some (.cells #[.int .i64 (gH t), .int .u64 (gL t), .int .u64 0] T (0, 0))
structure CS (w : World) (b : Nat) (t : Int) (T : TypeId) (g o : Nat) (p : Pt) (w' : World) : Prop where
  below : Below w.heap.size w w'
  gr : GrAt w' b t T
  pt : PtAt w' g o p
theorem lo64_zero : lo64 (0 + ofO false) = 0 := by decide
theorem lo64_zero' : lo64 (0 - ofO false) = 0 := by decide
theorem I64_of_64 {x : Int} (h : In64 x) : I64 x := h
set_option maxRecDepth 100000 in
theorem sum_push (b : Nat) (t : Int) (g o c : Nat) (P : List Pt) (x : Pt) (w : World) (hb : GrAt w b t 77) (hr : RPt w (some ⟨g, o, none⟩) (P ++ [x])) (hx : In64 x.2) (hn : P.length ≤ 1099511627776) :
    Calls Try.prog 89 #[ptrTo b, .slice (some ⟨g, o, none⟩) (P.length + 1) c] w fun e w' => e = .returned (.tuple #[]) ∧ GrAt w' b (w128 (t + x.2)) 77 ∧ Only (fun k => k = b) w w' := by
  obtain ⟨hg, hp⟩ := hr.pt (k := P.length) (by simp)
  simp only [List.getElem_append_right (Nat.le_refl _), Nat.sub_self, List.getElem_cons_zero] at hp
  have CP := Lib.hid (fun W => put_any t 0 x.2 false (I64_of_64 hx) W)
  simp only [lo64_zero, ofT, Bool.false_eq_true, if_false] at CP
  have HB := Lib.hid hb
  have HP := Lib.hid hp
  have HG := Lib.hid hg
  obtain ⟨xt, xn⟩ := x
  simp only at *
  clear hb hp hr hg hx
  generalize P.length = n at *
  have hwr : IntKind.i64.wrap (n : Int) = (n : Int) := by rw [IntKind.wrap_i64]; omega
  have hix : (n : Int) < (n : Int) + 1 := by omega
  unfold ptrTo
  go_enter Try.func89, Try.ntmps89
  refine wp_region_here 15 [(0, false), (1, false), (2, false), (3, false), (4, false), (5, false), (6, false), (7, false), (8, false), (9, false), (10, false), (11, false), (12, false), (13, false), (14, false)] (fun _ => .cells #[] 0) (by kernel_rfl) (by kernel_rfl) ?_
  repeat (first | (refine wpP_q rfl rfl rfl ?_; apply Exists.intro; refine ⟨fun w' hw' => ?_, fun K hK => ?_⟩; (focus ((have q0 := HB.out; have hz := hw'; have k0 := cellAt (o := 0) (keepB q0 hz) rfl; have k1 := cellAt (o := 1) (keepB q0 hz) rfl; have k2 := cellAt (o := 2) (keepB q0 hz) rfl; have qp := HP.out.below HG.out hz; unfold PtAt at qp; obtain ⟨p0, p1, p2⟩ := qp; clear q0 hz); go_simp; first | exact quiet_value | with_reducible exact quiet_enter (CP.out _))); simp only [Act.put, List.setIfInBounds_toArray, List.set_cons_zero, List.set_cons_succ]; refine hK.out _ ?_; clear hK K) | (refine wpP_skip rfl rfl rfl (fun K hK => ?_); simp only [Act.put, List.setIfInBounds_toArray, List.set_cons_zero, List.set_cons_succ]; refine hK.out _ ?_; clear hK K))
  refine wpP_nil ?_
  intro w1 HB1
  have k9 := keepB HB.out HB1
  have HK := Lib.hid k9
  have f0 := freeAt 0 k9
  have f1 := freeAt 1 k9
  have f2 := freeAt 2 k9
  have k0 := cellAt (o := 0) k9 rfl
  have k1 := cellAt (o := 1) k9 rfl
  have k2 := cellAt (o := 2) k9 rfl
  have HW := Lib.hid HB1
  clear k9 HB1
  try simp only [List.drop_succ_cons, List.drop_zero]
  go_wp2_with fail
  go_end0
  refine ⟨rfl, ?_, (Only.of_below HW.out).trans (((Only.set _ _ _ _).trans (Only.set _ _ _ _)).trans (Only.set _ _ _ _))⟩
  unfold GrAt
  rw [setCell_get (setCell_get (setCell_get HK.out))]
  rfl
set_option maxRecDepth 100000 in
theorem sum_pop (b : Nat) (t : Int) (g o c n : Nat) (P : List Pt) (x : Pt) (w : World) (hb : GrAt w b t 77) (hr : RPt w (some ⟨g, o, none⟩) (x :: P)) (hx : In64 x.2) (hn : n = (x :: P).length) :
    Calls Try.prog 88 #[ptrTo b, .slice (some ⟨g, o, none⟩) n c] w fun e w' => e = .returned (.tuple #[]) ∧ GrAt w' b (w128 (t - x.2)) 77 ∧ Only (fun k => k = b) w w' := by
  obtain ⟨hg, hp⟩ := hr.pt (k := 0) (by simp)
  simp only [List.getElem_cons_zero, Nat.zero_mul, Nat.add_zero] at hp
  have CP := Lib.hid (fun W => take_any t 0 x.2 false (I64_of_64 hx) W)
  simp only [lo64_zero', ofT, Bool.false_eq_true, if_false] at CP
  have HB := Lib.hid hb
  have HP := Lib.hid hp
  have HG := Lib.hid hg
  have hix : 0 < n := by rw [hn]; simp
  obtain ⟨xt, xn⟩ := x
  simp only at *
  clear hb hp hr hg hx hn
  unfold ptrTo
  go_enter Try.func88, Try.ntmps88
  refine wp_region_here 12 [(0, false), (1, false), (2, false), (3, false), (4, false), (5, false), (6, false), (7, false), (8, false), (9, false), (10, false), (11, false)] (fun _ => .cells #[] 0) (by kernel_rfl) (by kernel_rfl) ?_
  repeat (first | (refine wpP_q rfl rfl rfl ?_; apply Exists.intro; refine ⟨fun w' hw' => ?_, fun K hK => ?_⟩; (focus ((have q0 := HB.out; have hz := hw'; have k0 := cellAt (o := 0) (keepB q0 hz) rfl; have k1 := cellAt (o := 1) (keepB q0 hz) rfl; have k2 := cellAt (o := 2) (keepB q0 hz) rfl; have qp := HP.out.below HG.out hz; unfold PtAt at qp; obtain ⟨p0, p1, p2⟩ := qp; clear q0 hz); go_simp; first | exact quiet_value | with_reducible exact quiet_enter (CP.out _))); simp only [Act.put, List.setIfInBounds_toArray, List.set_cons_zero, List.set_cons_succ]; refine hK.out _ ?_; clear hK K) | (refine wpP_skip rfl rfl rfl (fun K hK => ?_); simp only [Act.put, List.setIfInBounds_toArray, List.set_cons_zero, List.set_cons_succ]; refine hK.out _ ?_; clear hK K))
  refine wpP_nil ?_
  intro w1 HB1
  have k9 := keepB HB.out HB1
  have HK := Lib.hid k9
  have f0 := freeAt 0 k9
  have f1 := freeAt 1 k9
  have f2 := freeAt 2 k9
  have k0 := cellAt (o := 0) k9 rfl
  have k1 := cellAt (o := 1) k9 rfl
  have k2 := cellAt (o := 2) k9 rfl
  have HW := Lib.hid HB1
  clear k9 HB1
  try simp only [List.drop_succ_cons, List.drop_zero]
  go_wp2_with fail
  go_end0
  refine ⟨rfl, ?_, (Only.of_below HW.out).trans (((Only.set _ _ _ _).trans (Only.set _ _ _ _)).trans (Only.set _ _ _ _))⟩
  unfold GrAt
  rw [setCell_get (setCell_get (setCell_get HK.out))]
  rfl
/-- A value, by a maker. -/
def ValE (n : Int) (o : Bool) (e : Ending) : Prop := e = .returned (.agg #[.int .i64 n, .bool o])
set_option maxRecDepth 100000 in
theorem sum_value (b : Nat) (t : Int) (ht : I128 t) (sl : Value) (w : World) (hb : GrAt w b t 77) :
    Calls Try.prog 90 #[ptrTo b, sl] w fun e w' => e = .returned (.agg #[.int .i64 (gvN t 0), .bool (gvO t 0)]) ∧ Below w.heap.size w w' := by
  have CP := Lib.hid (fun W => value_any t 0 ht W)
  have HB := Lib.hid hb
  have hW := below_alloc (Below.refl w.heap.size w) (.cells #[.int .i64 0, .bool false] 25)
  have k9 := keepB hb hW
  have k0 := cellAt (o := 0) k9 rfl
  have k1 := cellAt (o := 1) k9 rfl
  have k2 := cellAt (o := 2) k9 rfl
  have HW := Lib.hid hW
  clear k9 hW hb
  generalize gvN t 0 = vn at *
  generalize gvO t 0 = vo at *
  unfold ptrTo
  go_enter Try.func90, Try.ntmps90
  go_wp2_with fail
  refine (CP.out _).mono ?_
  rintro e w1 ⟨rfl, hb⟩
  have b9 := keepB (newB w (.cells #[.int .i64 0, .bool false] 25)) hb
  have m0 := cellAt (o := 0) b9 rfl
  have m1 := cellAt (o := 1) b9 rfl
  have f0 := freeAt 0 b9
  have f1 := freeAt 1 b9
  have HF := Lib.hid (HW.out.trans (hb.mono HW.out.size))
  clear hb b9
  go_wp2_with fail
  exact bodyPost_ret (v := .agg #[.int .i64 vn, .bool vo]) (by simp only [results, Try.results90]; go_simp) rfl ⟨rfl, (HF.out.setCell (Nat.le_refl _) _).setCell (Nat.le_refl _) _⟩
set_option maxRecDepth 100000 in
theorem inc_value (b : Nat) (t : Int) (ht : I128 t) (sl : Value) (w : World) (hb : GrAt w b t 85) :
    Calls Try.prog 110 #[ptrTo b, sl] w fun e w' => e = .returned (.agg #[.int .i64 (gvN t 0), .bool (gvO t 0)]) ∧ Below w.heap.size w w' := by
  have CP := Lib.hid (fun W => value_any t 0 ht W)
  have HB := Lib.hid hb
  have hW := below_alloc (Below.refl w.heap.size w) (.cells #[.int .i64 0, .bool false] 25)
  have k9 := keepB hb hW
  have k0 := cellAt (o := 0) k9 rfl
  have k1 := cellAt (o := 1) k9 rfl
  have k2 := cellAt (o := 2) k9 rfl
  have HW := Lib.hid hW
  clear k9 hW hb
  generalize gvN t 0 = vn at *
  generalize gvO t 0 = vo at *
  unfold ptrTo
  go_enter Try.func110, Try.ntmps110
  go_wp2_with fail
  refine (CP.out _).mono ?_
  rintro e w1 ⟨rfl, hb⟩
  have b9 := keepB (newB w (.cells #[.int .i64 0, .bool false] 25)) hb
  have m0 := cellAt (o := 0) b9 rfl
  have m1 := cellAt (o := 1) b9 rfl
  have f0 := freeAt 0 b9
  have f1 := freeAt 1 b9
  have HF := Lib.hid (HW.out.trans (hb.mono HW.out.size))
  clear hb b9
  go_wp2_with fail
  exact bodyPost_ret (v := .agg #[.int .i64 vn, .bool vo]) (by simp only [results, Try.results110]; go_simp) rfl ⟨rfl, (HF.out.setCell (Nat.le_refl _) _).setCell (Nat.le_refl _) _⟩
/-! ### step, without -/
def pv (p : Pt) : Value := .agg #[.int .i64 p.1, .int .i64 p.2, .bool false]
abbrev gv0 (t : Int) : Value := .agg #[.int .i64 (gH t), .int .u64 (gL t), .int .u64 0]
theorem box3 (w : World) (A B C : Obj) : (((w.alloc A).alloc B).alloc C).heap[w.heap.size]? = some A ∧ (((w.alloc A).alloc B).alloc C).heap[w.heap.size + 1]? = some B ∧ (((w.alloc A).alloc B).alloc C).heap[w.heap.size + 2]? = some C ∧ Below w.heap.size w (((w.alloc A).alloc B).alloc C) := by
  refine ⟨keepA (keepA (newB w A) B) C, ?_, ?_, below_alloc (below_alloc (below_alloc (Below.refl _ _) _) _) _⟩
  · have := keepA (newB (w.alloc A) B) C
    rwa [alloc_size] at this
  · have := newB ((w.alloc A).alloc B) C
    rwa [alloc_size, alloc_size] at this
theorem gH0 : gH 0 = 0 := by decide
theorem gL0 : gL 0 = 0 := by decide
theorem lo64_f : lo64 (ofO false) = 0 := by decide
theorem w128_sub (s t : Int) : w128 (w128 s - t) = w128 (s - t) := by unfold w128; omega
set_option maxRecDepth 100000 in
theorem step_any (at_ an bt bn : Int) (ha : In64 an) (hb : In64 bn) (w : World) :
    Calls Try.prog 112 #[.agg #[.int .i64 at_, .int .i64 an, .bool false], .agg #[.int .i64 bt, .int .i64 bn, .bool false]] w fun e w' => e = .returned (gv0 (w128 (stepN an bn))) ∧ Below w.heap.size w w' := by
  obtain ⟨h0, h1, h2, h3⟩ := box3 w (.cells #[.int .i64 at_, .int .i64 an, .bool false] 54) (.cells #[.int .i64 bt, .int .i64 bn, .bool false] 54) (Obj.cells #[.int .i64 0, .int .u64 0, .int .u64 0] 75)
  have CP := Lib.hid (fun W => put_any 0 0 bn false (I64_of_64 hb) W)
  have CT := Lib.hid (fun W => take_any (w128 bn) 0 an false (I64_of_64 ha) W)
  simp only [lo64_zero', lo64_f, ofT, Bool.false_eq_true, if_false, gH0, gL0, Int.zero_add, w128_sub] at CP CT
  have H0 := Lib.hid h0
  have H1 := Lib.hid h1
  have H2 := Lib.hid h2
  have H3 := Lib.hid h3
  by_cases hlt : bn < an
  · have HS : Hid (stepN an bn = bn) := Lib.hid (if_pos hlt)
    rw [HS.out]
    clear ha hb h0 h1 h2 h3
    go_enter Try.func112, Try.ntmps112
    go_wp2_with fail
    refine (CP.out _).mono ?_
    rintro e w1 ⟨rfl, hb⟩
    have k9 := keepB H2.out hb
    have m0 := cellAt (o := 0) k9 rfl
    have m1 := cellAt (o := 1) k9 rfl
    have m2 := cellAt (o := 2) k9 rfl
    have f0 := freeAt 0 k9
    have f1 := freeAt 1 k9
    have f2 := freeAt 2 k9
    have HF := Lib.hid (H3.out.trans (hb.mono H3.out.size))
    clear hb k9
    go_wp2_with fail
    exact bodyPost_ret (v := gv0 (w128 bn)) (by simp only [results, Try.results112, gv0]; go_simp) rfl ⟨rfl, ((HF.out.setCell (by dsimp only; omega) _).setCell (by dsimp only; omega) _).setCell (by dsimp only; omega) _⟩
  · have HS : Hid (stepN an bn = bn - an) := Lib.hid (if_neg hlt)
    rw [HS.out]
    clear ha hb h0 h1 h2 h3
    go_enter Try.func112, Try.ntmps112
    go_wp2_with fail
    refine wp_region_here 7 [(0, false), (1, false), (2, false), (3, false), (4, false), (5, false), (6, false)] (fun _ => .cells #[] 0) (by kernel_rfl) (by kernel_rfl) ?_
    repeat (first | (refine wpP_q rfl rfl rfl ?_; apply Exists.intro; refine ⟨fun w' hw' => ?_, fun K hK => ?_⟩; (focus ((have q0 := keepB H0.out hw'; have q1 := keepB H1.out hw'; have k0 := cellAt (o := 0) q0 rfl; have k1 := cellAt (o := 1) q0 rfl; have k2 := cellAt (o := 2) q0 rfl; have p0 := cellAt (o := 0) q1 rfl; have p1 := cellAt (o := 1) q1 rfl; have p2 := cellAt (o := 2) q1 rfl; clear q0 q1); go_simp; first | exact quiet_value | first | with_reducible exact quiet_enter (CP.out _) | with_reducible exact quiet_enter (CT.out _))); simp only [Act.put, List.setIfInBounds_toArray, List.set_cons_zero, List.set_cons_succ]; refine hK.out _ ?_; clear hK K) | (refine wpP_skip rfl rfl rfl (fun K hK => ?_); simp only [Act.put, List.setIfInBounds_toArray, List.set_cons_zero, List.set_cons_succ]; refine hK.out _ ?_; clear hK K))
    refine wpP_nil ?_
    intro w1 hb
    have k9 := keepB H2.out hb
    have m0 := cellAt (o := 0) k9 rfl
    have m1 := cellAt (o := 1) k9 rfl
    have m2 := cellAt (o := 2) k9 rfl
    have f0 := freeAt 0 k9
    have f1 := freeAt 1 k9
    have f2 := freeAt 2 k9
    have HF := Lib.hid (H3.out.trans (hb.mono H3.out.size))
    clear hb k9
    try simp only [List.drop_succ_cons, List.drop_zero]
    go_wp2_with fail
    exact bodyPost_ret (v := gv0 (w128 (bn - an))) (by simp only [results, Try.results112, gv0]; go_simp) rfl ⟨rfl, ((HF.out.setCell (by dsimp only; omega) _).setCell (by dsimp only; omega) _).setCell (by dsimp only; omega) _⟩
theorem notU_lo (t : Int) : IntKind.u64.wrap (notU (gL t) + 1) = gL (w128 (-t)) := by rw [u64_lo, turned_low]
theorem wo_zero {t : Int} (h : gL (w128 (-t)) = 0) : wrap64 (notI (gH t) + 1) = gH (w128 (-t)) := by
  simp only [wrap64, gH, gL, w128, notI] at *; omega
theorem wo_pos {t : Int} (h : gL (w128 (-t)) ≠ 0) (ht : I128 t) : notI (gH t) = gH (w128 (-t)) := by
  obtain ⟨_, _⟩ := ht
  simp only [gH, gL, w128, notI] at *; omega
set_option maxRecDepth 100000 in
theorem without_any (t s : Int) (hs : I128 s) (w : World) :
    Calls Try.prog 111 #[gv0 t, gv0 s] w fun e w' => e = .returned (gv0 (w128 (t - s))) ∧ Below w.heap.size w w' := by
  obtain ⟨h0, h1, h2, h3⟩ := box3 w (.cells #[.int .i64 (gH t), .int .u64 (gL t), .int .u64 0] 75) (.cells #[.int .i64 (gH s), .int .u64 (gL s), .int .u64 0] 75) (Obj.cells #[.int .i64 0, .int .u64 0, .int .u64 0] 75)
  have CB := Lib.hid (fun W => both_any t (w128 (-s)) 0 0 W)
  rw [show lo64 (0 + 0) = 0 by decide, w128_add', show t + -s = t - s by omega] at CB
  have hx := xor_u (gL_U s)
  have hy := xor_i (gH_I hs)
  have hs1 : IntKind.u64.signed = false := rfl
  have hs2 : IntKind.i64.signed = true := rfl
  have hl := notU_lo s
  have H2 := Lib.hid h2
  have H3 := Lib.hid h3
  by_cases hz : gL (w128 (-s)) = 0
  · have hh := wo_zero hz
    have e1 : (gL (w128 (-s)) == 0) = true := by simp [hz]
    clear h0 h1 h2 h3 hz hs
    unfold gv0 at *
    go_enter Try.func111, Try.ntmps111
    go_wp2_with fail
    refine (CB.out _).mono ?_
    rintro e w1 ⟨rfl, hb⟩
    have k9 := keepB H2.out hb
    have m0 := cellAt (o := 0) k9 rfl
    have m1 := cellAt (o := 1) k9 rfl
    have m2 := cellAt (o := 2) k9 rfl
    have f0 := freeAt 0 k9
    have f1 := freeAt 1 k9
    have f2 := freeAt 2 k9
    have HF := Lib.hid (H3.out.trans (hb.mono H3.out.size))
    clear hb k9
    go_wp2_with fail
    exact bodyPost_ret (v := gv0 (w128 (t - s))) (by simp only [results, Try.results111, gv0]; go_simp) rfl ⟨rfl, ((HF.out.setCell (by dsimp only; omega) _).setCell (by dsimp only; omega) _).setCell (by dsimp only; omega) _⟩
  · have hh := wo_pos hz hs
    have e1 : (gL (w128 (-s)) == 0) = false := beq_eq_false_iff_ne.2 hz
    clear h0 h1 h2 h3 hz hs
    unfold gv0 at *
    go_enter Try.func111, Try.ntmps111
    go_wp2_with fail
    refine (CB.out _).mono ?_
    rintro e w1 ⟨rfl, hb⟩
    have k9 := keepB H2.out hb
    have m0 := cellAt (o := 0) k9 rfl
    have m1 := cellAt (o := 1) k9 rfl
    have m2 := cellAt (o := 2) k9 rfl
    have f0 := freeAt 0 k9
    have f1 := freeAt 1 k9
    have f2 := freeAt 2 k9
    have HF := Lib.hid (H3.out.trans (hb.mono H3.out.size))
    clear hb k9
    go_wp2_with fail
    exact bodyPost_ret (v := gv0 (w128 (t - s))) (by simp only [results, Try.results111, gv0]; go_simp) rfl ⟨rfl, ((HF.out.setCell (by dsimp only; omega) _).setCell (by dsimp only; omega) _).setCell (by dsimp only; omega) _⟩
end Go.Proofs.Ytbhkgnhgecchcaa
