/- The reference's slide: New, Time, Value, Go, Push. -/
import Derived.Test.YtbhkgnhgecchcaaRsS
namespace Go.Proofs.Ytbhkgnhgecchcaa
open Go.RowKit
/-- A reference's slide in memory of F: all of it from block B on. -/
structure RsB (w : World) (B r : Nat) (fn span : Int) (σ : Slst) (F : Nat → Prop) : Prop where
  sl : RefsW w F r fn span σ.time σ.pts
  lo : ∀ k, F k → B ≤ k
  hi : ∀ k, F k → k < w.heap.size
section
variable {w w' : World} {F S : Nat → Prop} {B r c : Nat} {fn span : Int} {σ : Slst}
theorem RsB.le (h : RsB w B r fn span σ F) : B ≤ w.heap.size := Nat.le_of_lt (Nat.lt_of_le_of_lt (h.lo r h.sl.1) (h.hi r h.sl.1))
theorem RsB.keep (h : RsB w B r fn span σ F) (ho : Only S w w') (hn : ∀ k, F k → k < w.heap.size → ¬ S k) : RsB w' B r fn span σ F := ⟨h.sl.keep ho hn, h.lo, fun k hk => Nat.lt_of_lt_of_le (h.hi k hk) ho.size⟩
theorem RsB.below (h : RsB w B r fn span σ F) (hb : Below w.heap.size w w') : RsB w' B r fn span σ F := h.keep (S := fun _ => False) (Only.of_below hb) (fun _ _ _ h => h)
theorem RsB.bel (h : RsB w B r fn span σ F) (hb : Only F w w') : Below B w w' := hb.below h.lo h.le
end
def OpR (B r : Nat) (fn span : Int) (F : Nat → Prop) (q : Int × Slst) (w : World) (e : Ending) (w' : World) : Prop :=
  e = .returned (.int .i64 q.1) ∧ (∃ F', RsB w' B r fn span q.2 F' ∧ ∀ k, F' k → F k ∨ w.heap.size ≤ k) ∧ Only F w w'
theorem RsB.weakB {w w0 : World} {B r : Nat} {fn span : Int} {σ : Slst} {F : Nat → Prop} (h : RefsW w (fun k => F k ∨ w0.heap.size ≤ k) r fn span σ.time σ.pts) (hs : ∀ k, F k → B ≤ k) (hB : B ≤ w0.heap.size) : ∃ F', RsB w B r fn span σ F' ∧ ∀ k, F' k → F k ∨ w0.heap.size ≤ k :=
  ⟨fun k => (F k ∨ w0.heap.size ≤ k) ∧ k < w.heap.size, ⟨h.weak (fun _ hk h => ⟨h, hk⟩), fun k hk => hk.1.elim (hs k) (Nat.le_trans hB), fun _ hk => hk.2⟩, fun _ hk => hk.1⟩
def RNewP (fn span : Int) (w : World) (e : Ending) (w' : World) : Prop :=
  (okNew fn span ∧ ∃ r F, e = .returned (.tuple #[.pointer (some ⟨r, 0, none⟩), .int .i64 0]) ∧ RsB w' w.heap.size r fn span ⟨0, [], 0⟩ F ∧ Below w.heap.size w w') ∨ (¬ okNew fn span ∧ e = .returned (.tuple #[.pointer none, .int .i64 2]) ∧ Below w.heap.size w w')
theorem stGo_no {span : Int} {σ : Slst} {t x : Int} (h : goE σ.time t = x) (hx : x ≠ 0) : stGo span σ t = (x, σ) := by unfold stGo; rw [h, if_neg hx]
theorem stPush_no {span : Int} {σ : Slst} {t n x : Int} (h : pushE σ.time t = x) (hx : x ≠ 0) : stPush span σ t n = (x, σ) := by unfold stPush; rw [h, if_neg hx]
set_option maxRecDepth 100000 in
theorem rsnew_any (fn span : Int) (w : World) : Calls Try.prog 20 #[.int .i64 fn, .int .i64 span] w (RNewP fn span w) := by
  by_cases h1 : fn < 1
  · go_enter Try.func20, Try.ntmps20
    go_wp2_with fail
    go_ret2
    exact .inr ⟨fun h => by unfold okNew at h; omega, rfl, Below.refl _ _⟩
  by_cases h2 : 6 < fn
  · go_enter Try.func20, Try.ntmps20
    go_wp2_with fail
    go_ret2
    exact .inr ⟨fun h => by unfold okNew at h; omega, rfl, Below.refl _ _⟩
  by_cases h3 : span < 1
  · go_enter Try.func20, Try.ntmps20
    go_wp2_with fail
    go_ret2
    exact .inr ⟨fun h => by unfold okNew at h; omega, rfl, Below.refl _ _⟩
  by_cases h4 : 1073741824 < span
  · go_enter Try.func20, Try.ntmps20
    go_wp2_with fail
    go_ret2
    exact .inr ⟨fun h => by unfold okNew at h; omega, rfl, Below.refl _ _⟩
  have HK : Hid (okNew fn span) := Lib.hid (by unfold okNew; omega)
  go_enter Try.func20, Try.ntmps20
  go_wp2_with fail
  have hb := newB w (.cells #[.int .i64 fn, .int .i64 span, .slice none 0 0, .int .i64 0] 50)
  refine bodyPost_ret (v := .tuple #[.pointer (some ⟨w.heap.size, 0, none⟩), .int .i64 0]) (by simp only [results, Try.results20]; go_simp) rfl (.inl ⟨HK.out, w.heap.size, fun k => k = w.heap.size, rfl, ⟨⟨rfl, _, hb, RowAt.nil_⟩, fun k hk => Nat.le_of_eq hk.symm, fun k hk => by rw [hk, alloc_size]; omega⟩, below_alloc (Below.refl _ _) _⟩)
section
variable {w : World} {F : Nat → Prop} {r : Nat} {fn span time : Int} {P : List Pt}
theorem rtime_made (h : RefsW w F r fn span time P) : Calls Try.prog 21 #[.pointer (some ⟨r, 0, none⟩)] w fun e w' => e = .returned (.int .i64 time) ∧ Below w.heap.size w w' := by
  obtain ⟨_, lv, h1, h2⟩ := h
  have k3 := cellAt (o := 3) h1 rfl
  clear h1 h2
  go_enter Try.func21, Try.ntmps21
  go_wp2_with fail
  go_ret
  exact ⟨rfl, Below.refl _ _⟩
set_option maxRecDepth 100000 in
theorem rval_made (h : RefsW w F r fn span time P) (hfn : 1 ≤ fn ∧ fn ≤ 6) (hP : Sane P) (hl : P.length ≤ 1000000) : Calls Try.prog 24 #[.pointer (some ⟨r, 0, none⟩)] w fun e w' => e = .returned (vvV fn P) ∧ Below w.heap.size w w' := by
  have hW := below_alloc (Below.refl w.heap.size w) (.cells #[.int .i64 0, .bool false] 25)
  have hC : ∃ A c, (∃ lv, lv = Value.slice A P.length c ∧ w.heap[r]? = some (.cells #[.int .i64 fn, .int .i64 span, lv, .int .i64 time] 50 (0, 0))) ∧ ∀ W, Below w.heap.size w W → Calls Try.prog 27 #[.int .i64 fn, .slice A P.length c] W fun e w' => e = .returned (vvV fn P) ∧ Below W.heap.size W w' := by
    obtain ⟨_, lv, h1, h2⟩ := h
    rcases Nat.eq_zero_or_pos P.length with h0 | h0
    · obtain ⟨A, c, e, _⟩ := h2.form
      refine ⟨A, c, ⟨lv, e, h1⟩, fun W _ => ?_⟩
      have hP0 : P = [] := List.eq_nil_of_length_eq_zero h0
      subst hP0
      exact rwindow_nil fn A c W
    · obtain ⟨g, o, c, e, _, _, hrd⟩ := h2.ad h0
      exact ⟨some ⟨g, o, none⟩, c, ⟨lv, e, h1⟩, fun W hb => rwindow_any fn hfn g o c P W (RPt.below hrd hb) hP.nums h0 hl⟩
  obtain ⟨A, c, ⟨_, rfl, h1⟩, hCW⟩ := hC
  obtain ⟨vn, vo, vi, hv⟩ : ∃ (n : Int) (o i : Bool), vvV fn P = .tuple #[.agg #[.int .i64 n, .bool o], .bool i] := by
    unfold vvV; split <;> exact ⟨_, _, _, rfl⟩
  rw [hv] at hCW ⊢
  have CW := Lib.hid hCW
  have HW := Lib.hid hW
  have H1 := Lib.hid (keepB h1 hW)
  have HX := Lib.hid (newB w (.cells #[.int .i64 0, .bool false] 25))
  clear h h1 hCW hW hv
  go_enter Try.func24, Try.ntmps24
  go_wp2_with fail
  refine wp_region_here 11 [(0, false), (1, false), (2, false), (3, false), (4, false), (5, false), (6, false), (7, false), (8, false), (9, false), (10, false)] (fun _ => .cells #[] 0) (by kernel_rfl) (by kernel_rfl) ?_
  repeat (first | (refine wpP_q rfl rfl rfl ?_; apply Exists.intro; refine ⟨fun w' hw' => ?_, fun K hK => ?_⟩; (focus ((have q0 := keepB H1.out hw'; have j0 := cellAt (o := 0) q0 rfl; have j2 := cellAt (o := 2) q0 rfl; clear q0); go_simp; first | exact quiet_value | with_reducible exact quiet_enter (CW.out _ (HW.out.trans (hw'.mono HW.out.size))))); simp only [Act.put, List.setIfInBounds_toArray, List.set_cons_zero, List.set_cons_succ]; refine hK.out _ ?_; clear hK K) | (refine wpP_skip rfl rfl rfl (fun K hK => ?_); simp only [Act.put, List.setIfInBounds_toArray, List.set_cons_zero, List.set_cons_succ]; refine hK.out _ ?_; clear hK K))
  refine wpP_nil ?_
  intro w2 hb2
  have k9 := keepB HX.out hb2
  have m0 := cellAt (o := 0) k9 rfl
  have m1 := cellAt (o := 1) k9 rfl
  have f0 := freeAt 0 k9
  have f1 := freeAt 1 k9
  have HF := Lib.hid (HW.out.trans (hb2.mono HW.out.size))
  clear hb2 k9
  try simp only [List.drop_succ_cons, List.drop_zero]
  go_wp2_with fail
  refine bodyPost_ret (v := .tuple #[.agg #[.int .i64 vn, .bool vo], .bool vi]) (by simp only [results, Try.results24]; go_simp) rfl ⟨rfl, ?_⟩
  exact (HF.out.setCell (Nat.le_refl _) _).setCell (Nat.le_refl _) _
end
set_option maxRecDepth 100000 in
theorem rgo_b {w : World} {F : Nat → Prop} {B r c : Nat} {fn span : Int} {σ : Slst} (h : RsB w B r fn span σ F) (hf : Fine σ c) (t : Int) (hs : 1 ≤ span ∧ span ≤ 1073741824) (q : Int × Slst) (hq : stGo span σ t = q) :
    Calls Try.prog 22 #[.pointer (some ⟨r, 0, none⟩), .int .i64 t] w (OpR B r fn span F q w) := by
  subst hq
  have HS := Lib.hid h
  have HN : Hid (∃ F', RsB w B r fn span σ F' ∧ ∀ k, F' k → F k ∨ w.heap.size ≤ k) := Lib.hid ⟨F, h, fun k hk => .inl hk⟩
  obtain ⟨_, lv, h1, h2⟩ := h.sl
  have k3 := cellAt (o := 3) h1 rfl
  clear h1 h2 h
  by_cases ha : t < 0
  · have HE : Hid (stGo span σ t = (2, σ)) := Lib.hid (stGo_no (by unfold goE; rw [if_pos (by omega)]) (by omega))
    rw [HE.out]
    go_enter Try.func22, Try.ntmps22
    go_wp2_with fail
    go_ret
    exact ⟨rfl, HN.out, Only.refl _ _⟩
  by_cases hb : 1099511627776 < t
  · have HE : Hid (stGo span σ t = (2, σ)) := Lib.hid (stGo_no (by unfold goE; rw [if_pos (by omega)]) (by omega))
    rw [HE.out]
    go_enter Try.func22, Try.ntmps22
    go_wp2_with fail
    go_ret
    exact ⟨rfl, HN.out, Only.refl _ _⟩
  by_cases hc : t < σ.time
  · have HE : Hid (stGo span σ t = (8, σ)) := Lib.hid (stGo_no (by unfold goE; rw [if_neg (by omega), if_pos hc]) (by omega))
    rw [HE.out]
    go_enter Try.func22, Try.ntmps22
    go_wp2_with fail
    go_ret
    exact ⟨rfl, HN.out, Only.refl _ _⟩
  · have HE : Hid (stGo span σ t = (0, ⟨t, gone (t - span) σ.pts, σ.k⟩)) := Lib.hid (by unfold stGo; rw [if_pos (show goE σ.time t = 0 by unfold goE; rw [if_neg (by omega), if_neg hc])])
    rw [HE.out]
    have CG := Lib.hid (goes_made HS.out.sl hf.fit.sane t (by omega) (by omega) hs.1 hs.2)
    go_enter Try.func22, Try.ntmps22
    go_wp2_with fail
    refine CG.out.mono ?_
    rintro e w2 ⟨rfl, g1, g2⟩
    have G1 := Lib.hid (RsB.weakB (σ := ⟨t, gone (t - span) σ.pts, σ.k⟩) g1 HS.out.lo HS.out.le)
    have G2 := Lib.hid g2
    clear g1 g2
    go_wp2_with fail
    go_ret
    exact ⟨rfl, G1.out, G2.out⟩
end Go.Proofs.Ytbhkgnhgecchcaa
