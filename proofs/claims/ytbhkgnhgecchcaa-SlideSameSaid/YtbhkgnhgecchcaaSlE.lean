/- The maker of a slide that keeps the least number, or the greatest: contracts of its methods. -/
import Derived.Test.YtbhkgnhgecchcaaSlI
import Derived.Deep.LoopGhost
namespace Go.Proofs.Ytbhkgnhgecchcaa
open Go.RowKit
/-- The maker at block b, of the points P; K: no more points have been put. -/
def EndW (w : World) (M : Nat → Prop) (b : Nat) (sign : Bool) (P : List Pt) (K : Nat) : Prop := M b ∧ ∃ (rv : Value) (a : Nat) (Z : List Pt), w.heap[b]? = some (.cells #[.bool sign, rv, .int .i64 (a : Nat)] 82 (0, 0)) ∧
  RowAt w (fun k => M k ∧ k ≠ b) 54 3 rv (a + (sfx sign P).length) (pcs (Z ++ sfx sign P)) ∧ Z.length = a ∧ a + (sfx sign P).length ≤ K
theorem EndW.keep {w w' : World} {M S : Nat → Prop} {b : Nat} {sign : Bool} {P : List Pt} {K : Nat} (h : EndW w M b sign P K) (ho : Only S w w') (hn : ∀ k, M k → k < w.heap.size → ¬ S k) : EndW w' M b sign P K := by
  obtain ⟨hb, rv, a, Z, h1, h2, h3⟩ := h
  exact ⟨hb, rv, a, Z, ho.get h1 (hn b hb (only_lt h1)), h2.keep ho (fun k hk => hn k hk.1), h3⟩
theorem EndW.weak {w : World} {M N : Nat → Prop} {b : Nat} {sign : Bool} {P : List Pt} {K : Nat} (h : EndW w M b sign P K) (hN : ∀ k, k < w.heap.size → M k → N k) : EndW w N b sign P K := by
  obtain ⟨hb, rv, a, Z, h1, h2, h3⟩ := h
  exact ⟨hN b (only_lt h1) hb, rv, a, Z, h1, h2.weak (fun k hl hk => ⟨hN k hl hk.1, hk.2⟩), h3⟩
theorem before_any (b : Nat) (sign : Bool) (rv av : Value) (at_ an bt bn : Int) (w : World) (hb : w.heap[b]? = some (.cells #[.bool sign, rv, av] 82 (0, 0))) :
    Calls Try.prog 104 #[.pointer (some ⟨b, 0, none⟩), .agg #[.int .i64 at_, .int .i64 an, .bool false], .agg #[.int .i64 bt, .int .i64 bn, .bool false]] w fun e w' => e = .returned (.bool (aheadN sign an bn)) ∧ Below w.heap.size w w' := by
  have k0 := cellAt (o := 0) (keepA (keepA hb (.cells #[.int .i64 at_, .int .i64 an, .bool false] 54)) (.cells #[.int .i64 bt, .int .i64 bn, .bool false] 54)) rfl
  unfold aheadN
  cases sign
  · go_enter Try.func104, Try.ntmps104
    go_wp2_with fail
    go_ret
    exact ⟨rfl, below_alloc (below_alloc (Below.refl _ _) _) _⟩
  · go_enter Try.func104, Try.ntmps104
    go_wp2_with fail
    go_ret
    exact ⟨rfl, below_alloc (below_alloc (Below.refl _ _) _) _⟩
/-! ### value -/
set_option maxRecDepth 100000 in
theorem end_value (M : Nat → Prop) (b : Nat) (sign : Bool) (P : List Pt) (K : Nat) (sl : Value) (w : World) (h : EndW w M b sign P K) (p : Pt) (Q : List Pt) (hp : sfx sign P = p :: Q) :
    Calls Try.prog 103 #[ptrTo b, sl] w fun e w' => e = .returned (.agg #[.int .i64 p.2, .bool false]) ∧ Below w.heap.size w w' := by
  obtain ⟨_, rv, a, Z, h1, h2, h3, h4⟩ := h
  rw [hp] at h2 h4
  rcases h2.2 with ⟨_, h0⟩ | ⟨g, o, c, cur, rfl, hF, hg, hnc, hcm, hcs, htake⟩
  · simp at h0
  have hr : RPt w (some ⟨g, o, none⟩) (Z ++ p :: Q) := ⟨by rw [pcs_len], fun _ => ⟨_, rfl, only_lt hg, row_cells hg htake hnc⟩⟩
  obtain ⟨hgl, hpt⟩ := hr.pt (k := a) (by simp [h3])
  rw [List.getElem_append_right (by omega)] at hpt
  simp only [h3, Nat.sub_self, List.getElem_cons_zero] at hpt
  obtain ⟨xt, xn⟩ := p
  have HP := Lib.hid hpt
  have HG := Lib.hid hgl
  have H1 := Lib.hid h1
  have hlen : a < a + ((xt, xn) :: Q).length := by simp
  generalize a + ((xt, xn) :: Q).length = n at *
  have hix : (a : Int) < (n : Int) := by omega
  clear hpt hr htake hcs hg h2 hp h1 h3
  unfold ptrTo
  go_enter Try.func103, Try.ntmps103
  go_wp2_with fail
  have HW := Lib.hid (below_alloc (Below.refl w.heap.size w) (.cells #[.int .i64 0, .bool false] 25))
  have HX := Lib.hid (newB w (.cells #[.int .i64 0, .bool false] 25))
  refine wp_region_here 11 [(0, false), (1, false), (2, false), (3, false), (4, false), (5, false), (6, false), (7, false), (8, false), (9, false), (10, false)] (fun _ => .cells #[] 0) (by kernel_rfl) (by kernel_rfl) ?_
  repeat (first | (refine wpP_q rfl rfl rfl ?_; apply Exists.intro; refine ⟨fun w' hw' => ?_, fun K hK => ?_⟩; (focus ((have hz := HW.out.trans (hw'.mono HW.out.size); have q0 := keepB H1.out hz; have k1 := cellAt (o := 1) q0 rfl; have k2 := cellAt (o := 2) q0 rfl; have qp := HP.out.below HG.out hz; unfold PtAt at qp; obtain ⟨p0, p1, p2⟩ := qp; clear q0 hz); go_simp; first | exact quiet_value | fail)); simp only [Act.put, List.setIfInBounds_toArray, List.set_cons_zero, List.set_cons_succ]; refine hK.out _ ?_; clear hK K) | (refine wpP_skip rfl rfl rfl (fun K hK => ?_); simp only [Act.put, List.setIfInBounds_toArray, List.set_cons_zero, List.set_cons_succ]; refine hK.out _ ?_; clear hK K))
  refine wpP_nil ?_
  intro w1 hb1
  have k9 := keepB HX.out hb1
  have m0 := cellAt (o := 0) k9 rfl
  have m1 := cellAt (o := 1) k9 rfl
  have f0 := freeAt 0 k9
  have f1 := freeAt 1 k9
  have HF := Lib.hid (HW.out.trans (hb1.mono HW.out.size))
  clear hb1 k9
  try simp only [List.drop_succ_cons, List.drop_zero]
  go_wp2_with fail
  exact bodyPost_ret (v := .agg #[.int .i64 xn, .bool false]) (by simp only [results, Try.results103]; go_simp) rfl ⟨rfl, (HF.out.setCell (Nat.le_refl _) _).setCell (Nat.le_refl _) _⟩
/-! ### pop -/
theorem EndW.pop {w : World} {M : Nat → Prop} {b : Nat} {sign : Bool} {p q : Pt} {P Q : List Pt} {K a : Nat} {rv : Value} {Z : List Pt} (hb : M b) (h1 : w.heap[b]? = some (.cells #[.bool sign, rv, .int .i64 (a : Nat)] 82 (0, 0)))
    (h2 : RowAt w (fun k => M k ∧ k ≠ b) 54 3 rv (a + (q :: Q).length) (pcs (Z ++ q :: Q))) (h3 : Z.length = a) (h4 : a + (q :: Q).length ≤ K) (hs : sfx sign (p :: P) = q :: Q) (hq : q.1 = p.1) (hr : Rise (p :: P)) :
    EndW (w.setCell ⟨b, 2, none⟩ (.int .i64 ((a : Int) + 1))) M b sign P K := by
  have h5 := sfx_pop (sign := sign) hr
  rw [hs] at h5
  simp only [hq, if_true] at h5
  refine ⟨hb, rv, a + 1, Z ++ [q], by rw [setCell_get h1]; rfl, ?_, by simp [h3], ?_⟩
  · rw [h5]
    have := h2.keep (Only.set w b 2 (.int .i64 ((a : Int) + 1))) (fun k hk _ e => hk.2 e)
    rw [List.length_cons] at this
    rw [show a + 1 + Q.length = a + (Q.length + 1) by omega, List.append_assoc]
    exact this
  · rw [h5]; rw [List.length_cons] at h4; omega
theorem EndW.pop_no {w : World} {M : Nat → Prop} {b : Nat} {sign : Bool} {p q : Pt} {P Q : List Pt} {K : Nat} (h : EndW w M b sign (p :: P) K) (hs : sfx sign (p :: P) = q :: Q) (hq : q.1 ≠ p.1) (hr : Rise (p :: P)) : EndW w M b sign P K := by
  have h5 := sfx_pop (sign := sign) hr
  rw [hs] at h5
  simp only [hq, if_false] at h5
  unfold EndW at h ⊢
  rw [h5, ← hs]; exact h
set_option maxRecDepth 100000 in
theorem end_pop (M : Nat → Prop) (b : Nat) (sign : Bool) (p : Pt) (P : List Pt) (K : Nat) (g0 o0 c0 n : Nat) (w : World) (h : EndW w M b sign (p :: P) K) (hr : RPt w (some ⟨g0, o0, none⟩) (p :: P)) (hn : n = (p :: P).length) (hrise : Rise (p :: P)) (hK : K ≤ 1099511627776) :
    Calls Try.prog 101 #[ptrTo b, .slice (some ⟨g0, o0, none⟩) n c0] w fun e w' => e = .returned (.tuple #[]) ∧ EndW w' M b sign P K ∧ Only (fun k => k = b) w w' := by
  obtain ⟨q, Q, hs⟩ : ∃ q Q, sfx sign (p :: P) = q :: Q := by
    cases hc : sfx sign (p :: P) with
    | nil => exact absurd hc (sfx_ne (by simp))
    | cons q Q => exact ⟨q, Q, rfl⟩
  have HE := Lib.hid h
  obtain ⟨hMb, rv, a, Z, h1, h2, h3, h4⟩ := h
  rw [hs] at h2 h4
  have HPop := Lib.hid (fun hq w1 (hb : Below w.heap.size w w1) => EndW.pop (p := p) (q := q) hMb (keepB h1 hb) (h2.below hb) h3 h4 hs hq hrise)
  have HNo := Lib.hid (fun hq w1 (hb : Below w.heap.size w w1) => EndW.pop_no (q := q) (HE.out.keep (S := fun _ => False) (Only.of_below hb) (fun _ _ _ h => h)) hs hq hrise)
  rcases h2.2 with ⟨_, h0⟩ | ⟨g, o, c, cur, rfl, hF, hg, hnc, hcm, hcs, htake⟩
  · simp at h0
  have hrr : RPt w (some ⟨g, o, none⟩) (Z ++ q :: Q) := ⟨by rw [pcs_len], fun _ => ⟨_, rfl, only_lt hg, row_cells hg htake hnc⟩⟩
  obtain ⟨hgl, hpt⟩ := hrr.pt (k := a) (by simp [h3])
  rw [List.getElem_append_right (by omega)] at hpt
  simp only [h3, Nat.sub_self, List.getElem_cons_zero] at hpt
  obtain ⟨hgl2, hpt2⟩ := hr.pt (k := 0) (by simp)
  simp only [List.getElem_cons_zero, Nat.zero_mul, Nat.add_zero] at hpt2
  obtain ⟨qt, qn⟩ := q
  obtain ⟨pt, pn⟩ := p
  have HP := Lib.hid hpt
  have HG := Lib.hid hgl
  have HP2 := Lib.hid hpt2
  have HG2 := Lib.hid hgl2
  have H1 := Lib.hid h1
  have hlen : a < a + ((qt, qn) :: Q).length := by simp
  have hn0 : 0 < n := by rw [hn]; simp
  generalize a + ((qt, qn) :: Q).length = m at *
  have hix : (a : Int) < (m : Int) := by omega
  have ha1 : a + 1 ≤ 1099511627776 := by omega
  simp only at HPop HNo
  clear hpt hr hrr htake hcs hg h2 h1 h3 hs hpt2 HE hn hrise h4
  unfold ptrTo
  by_cases hq : qt = pt
  · have e1 : (qt == pt) = true := by simp [hq]
    have HR := Lib.hid (HPop.out hq)
    clear HPop HNo hq
    go_enter Try.func101, Try.ntmps101
    go_wp2_with fail
    refine wp_region_here 27 [(0, false), (1, false), (2, false), (3, false), (4, false), (5, false), (6, false), (7, false), (8, false), (9, false), (10, false), (11, false), (12, false), (13, false), (14, false), (15, false), (16, false), (17, false), (18, false), (19, false), (20, false), (21, false), (22, false), (23, false), (24, false), (25, false), (26, false)] (fun _ => .cells #[] 0) (by kernel_rfl) (by kernel_rfl) ?_
    repeat (first | (refine wpP_q rfl rfl rfl ?_; apply Exists.intro; refine ⟨fun w' hw' => ?_, fun K hK => ?_⟩; (focus ((have q0 := keepB H1.out hw'; have k1 := cellAt (o := 1) q0 rfl; have k2 := cellAt (o := 2) q0 rfl; have qp := HP.out.below HG.out hw'; have qr := HP2.out.below HG2.out hw'; unfold PtAt at qp qr; obtain ⟨p0, p1, p2⟩ := qp; obtain ⟨r0, r1, r2⟩ := qr; clear q0); go_simp; first | exact quiet_value | fail)); simp only [Act.put, List.setIfInBounds_toArray, List.set_cons_zero, List.set_cons_succ]; refine hK.out _ ?_; clear hK K) | (refine wpP_skip rfl rfl rfl (fun K hK => ?_); simp only [Act.put, List.setIfInBounds_toArray, List.set_cons_zero, List.set_cons_succ]; refine hK.out _ ?_; clear hK K))
    refine wpP_nil ?_
    intro w1 hb1
    have k9 := keepB H1.out hb1
    have j2 := cellAt (o := 2) k9 rfl
    have j3 := freeAt 2 k9
    have HW := Lib.hid hb1
    clear hb1 k9
    try simp only [List.drop_succ_cons, List.drop_zero]
    go_wp2_with fail
    go_end0
    exact ⟨rfl, HR.out _ HW.out, (Only.of_below HW.out).trans (Only.set _ _ _ _)⟩
  · have e1 : (qt == pt) = false := beq_eq_false_iff_ne.2 hq
    have HR := Lib.hid (HNo.out hq)
    clear HPop HNo hq
    go_enter Try.func101, Try.ntmps101
    go_wp2_with fail
    refine wp_region_here 27 [(0, false), (1, false), (2, false), (3, false), (4, false), (5, false), (6, false), (7, false), (8, false), (9, false), (10, false), (11, false), (12, false), (13, false), (14, false), (15, false), (16, false), (17, false), (18, false), (19, false), (20, false), (21, false), (22, false), (23, false), (24, false), (25, false), (26, false)] (fun _ => .cells #[] 0) (by kernel_rfl) (by kernel_rfl) ?_
    repeat (first | (refine wpP_q rfl rfl rfl ?_; apply Exists.intro; refine ⟨fun w' hw' => ?_, fun K hK => ?_⟩; (focus ((have q0 := keepB H1.out hw'; have k1 := cellAt (o := 1) q0 rfl; have k2 := cellAt (o := 2) q0 rfl; have qp := HP.out.below HG.out hw'; have qr := HP2.out.below HG2.out hw'; unfold PtAt at qp qr; obtain ⟨p0, p1, p2⟩ := qp; obtain ⟨r0, r1, r2⟩ := qr; clear q0); go_simp; first | exact quiet_value | fail)); simp only [Act.put, List.setIfInBounds_toArray, List.set_cons_zero, List.set_cons_succ]; refine hK.out _ ?_; clear hK K) | (refine wpP_skip rfl rfl rfl (fun K hK => ?_); simp only [Act.put, List.setIfInBounds_toArray, List.set_cons_zero, List.set_cons_succ]; refine hK.out _ ?_; clear hK K))
    refine wpP_nil ?_
    intro w1 hb1
    have k9 := keepB H1.out hb1
    have j2 := cellAt (o := 2) k9 rfl
    have j3 := freeAt 2 k9
    have HW := Lib.hid hb1
    clear hb1 k9
    try simp only [List.drop_succ_cons, List.drop_zero]
    go_wp2_with fail
    go_end0
    exact ⟨rfl, HR.out _ HW.out, Only.of_below HW.out⟩
end Go.Proofs.Ytbhkgnhgecchcaa
