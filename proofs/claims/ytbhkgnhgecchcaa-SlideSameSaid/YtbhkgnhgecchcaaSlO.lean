/- A slide's methods: right, Value, Len, Time. -/
import Derived.Test.YtbhkgnhgecchcaaSlN
namespace Go.Proofs.Ytbhkgnhgecchcaa
open Go.RowKit
theorem MkW.iface {w : World} {M : Nat → Prop} {fn : Int} {iv : Value} {P : List Pt} {K : Nat} (h : MkW w M fn iv P K) : ∃ T rv, iv = .iface T rv := by
  rcases h with ⟨h1, b, h2, h3, h4⟩ | ⟨_, h⟩ | ⟨sg, h1, b, h2, h3⟩ | ⟨_, h⟩ | ⟨h1, b, h2, h3, h4⟩
  · exact ⟨_, _, h2⟩
  · exact ⟨_, _, h⟩
  · exact ⟨_, _, h2⟩
  · exact ⟨_, _, h⟩
  · exact ⟨_, _, h2⟩
/-- One function serves in all worlds. -/
theorem MethC.at_ {name : String} {iv : Value} {args : Array Value} {w : World} {R : Ending → World → Prop} (h : MethC name iv args w R) : ∃ (T : TypeId) (rv : Value) (f : FuncId), iv = .iface T rv ∧ (∀ az W, (callMethod (.iface T rv) name az).run Try.prog W = .ok (.enter f (#[rv] ++ az)) W) ∧
    ∀ (az : Array Value) (W : World) (R' : Ending → World → Prop), MethC name iv az W R' → Calls Try.prog f (#[rv] ++ az) W R' := by
  obtain ⟨T, rv, f, h1, h2, _⟩ := h
  refine ⟨T, rv, f, h1, h2, fun az W R' h' => ?_⟩
  obtain ⟨T', rv', f', g1, g2, g3⟩ := h'
  rw [h1] at g1
  cases g1
  have e := (h2 #[] W).symm.trans (g2 #[] W)
  injection e with e1 e2
  injection e1 with e3 e4
  rw [e3]; exact g3
section
variable {P : Program} {o : Oper} {a : Act} {w : World} {name : String} {T : TypeId} {rv v u : Value} {f : FuncId} {ats : Array TypeId}
theorem run_inv (r x : Operand) (hop : o.op = .call { callee := .invoke r name, args := #[x], argTypes := ats }) (hr : a.eval r = .iface T rv) (hx : a.eval x = v)
    (hcm : ∀ az W, (callMethod (.iface T rv) name az).run P W = .ok (.enter f (#[rv] ++ az)) W) : (execOp a.eval o).run P w = .ok (.enter f (#[rv] ++ #[v])) w := by
  unfold execOp
  simp only [hop, resolve, invoke, Sem.run_bind, Sem.run_pure, Result.andThen_ok, List.map_toArray, List.map_cons, List.map_nil, hr, hx]
  simp only [List.append_toArray, List.cons_append, List.nil_append, List.getElem?_toArray, List.getElem?_cons_zero, hcm, List.extract_toArray, List.size_toArray, List.length_cons, List.length_nil]
  rfl
theorem q_inv (r x : Operand) (hop : o.op = .call { callee := .invoke r name, args := #[x], argTypes := ats }) (hr : a.eval r = .iface T rv) (hx : a.eval x = v)
    (hcm : ∀ az W, (callMethod (.iface T rv) name az).run P W = .ok (.enter f (#[rv] ++ az)) W) (hC : Calls P f (#[rv] ++ #[v]) w (fun e w' => e = .returned u ∧ Below w.heap.size w w')) : quietRes P w u ((execOp a.eval o).run P w) := by
  rw [run_inv r x hop hr hx hcm]; exact ⟨rfl, hC⟩
theorem st_inv {R : Value → World → Prop} (r x : Operand) (hop : o.op = .call { callee := .invoke r name, args := #[x], argTypes := ats }) (hr : a.eval r = .iface T rv) (hx : a.eval x = v)
    (hcm : ∀ az W, (callMethod (.iface T rv) name az).run P W = .ok (.enter f (#[rv] ++ az)) W) (hC : Calls P f (#[rv] ++ #[v]) w (fun e w' => ∃ u, e = .returned u ∧ R u w')) : stepRes P R ((execOp a.eval o).run P w) := by
  rw [run_inv r x hop hr hx hcm]; exact st_enter hC
end
theorem right_made {w : World} {F : Nat → Prop} {s : Nat} {fn span time : Int} {P : List Pt} {K : Nat} (h : SlideW w F s fn span time P K) : Calls Try.prog 30 #[.pointer (some ⟨s, 0, none⟩)] w fun e w' => e = .returned (.bool true) ∧ w = w' := by
  obtain ⟨_, lv, iv, h1, h2, h3⟩ := h
  obtain ⟨T, rv, rfl⟩ := h3.iface
  have k4 := cellAt (o := 4) h1 rfl
  clear h1 h2 h3
  go_enter Try.func30, Try.ntmps30
  go_wp2
  go_ret
  exact ⟨rfl, rfl⟩
theorem right_nil (w : World) : Calls Try.prog 30 #[.pointer none] w fun e w' => e = .returned (.bool false) ∧ w = w' := by
  go_enter Try.func30, Try.ntmps30
  go_wp2
  go_ret
  exact ⟨rfl, rfl⟩
/-- The value that is told. -/
def vvV (fn : Int) (P : List Pt) : Value := if P = [] then .tuple #[.agg #[.int .i64 0, .bool false], .bool false] else .tuple #[.agg #[.int .i64 (wv fn P).1, .bool (wv fn P).2], .bool true]
theorem RowAt.ad {w : World} {F : Nat → Prop} {e : TypeId} {size n : Nat} {v : Value} {xs : List Value} (h : RowAt w F e size v n xs) (hn : 0 < n) : ∃ g o c, v = .slice (some ⟨g, o, none⟩) n c ∧ n ≤ c ∧ c ≤ maxLen ∧ Reads w w.heap.size size (some ⟨g, o, none⟩) n xs := by
  rcases h.2 with ⟨_, h0⟩ | ⟨g, o, c, cur, rfl, hF, hg, hnc, hcm, hcs, htake⟩
  · omega
  · exact ⟨g, o, c, rfl, hnc, hcm, ⟨h.1, fun _ => ⟨_, rfl, only_lt hg, row_cells hg htake hnc⟩⟩⟩
set_option maxRecDepth 100000 in
theorem value_made {w : World} {F : Nat → Prop} {s : Nat} {fn span time : Int} {P : List Pt} {K : Nat} (h : SlideW w F s fn span time P K) (hP : P.length ≤ 1099511627775) : Calls Try.prog 10 #[.pointer (some ⟨s, 0, none⟩)] w fun e w' => e = .returned (vvV fn P) ∧ Below w.heap.size w w' := by
  have hW := below_alloc (Below.refl w.heap.size w) (.cells #[.int .i64 0, .bool false] 25)
  have CR := Lib.hid (right_made (h.below hW))
  obtain ⟨_, lv, iv, h1, h2, h3⟩ := h
  have HX := Lib.hid (newB w (.cells #[.int .i64 0, .bool false] 25))
  have HW := Lib.hid hW
  have H1 := Lib.hid (keepB h1 hW)
  cases P with
  | nil =>
    obtain ⟨A, c, rfl, _⟩ := h2.form
    have k3 := cellAt (o := 3) (keepB h1 hW) rfl
    have m0 := cellAt (o := 0) (newB w (.cells #[.int .i64 0, .bool false] 25)) rfl
    have m1 := cellAt (o := 1) (newB w (.cells #[.int .i64 0, .bool false] 25)) rfl
    have f0 := freeAt 0 (newB w (.cells #[.int .i64 0, .bool false] 25))
    have f1 := freeAt 1 (newB w (.cells #[.int .i64 0, .bool false] 25))
    clear h1 h2 h3 hW hP
    unfold vvV
    rw [if_pos rfl]
    go_enter Try.func10, Try.ntmps10
    go_wp2_with fail
    refine CR.out.mono ?_
    rintro e w1 ⟨rfl, rfl⟩
    go_wp2_with fail
    refine bodyPost_ret (v := .tuple #[.agg #[.int .i64 0, .bool false], .bool false]) (by simp only [results, Try.results10]; go_simp) rfl ⟨rfl, ?_⟩
    exact HW.out
  | cons p Q =>
    obtain ⟨g, o, c, rfl, hnc, hcm, hrd⟩ := h2.ad (by simp)
    have hmv := fun W (hb : Below w.heap.size w W) => mk_value (h3.below hb) g o c (RPt.below hrd hb) (by simp) hP
    obtain ⟨T, rv, f, rfl, hcm2, hat⟩ := (hmv w (Below.refl _ _)).at_
    have CV := Lib.hid (fun W (hb : Below w.heap.size w W) => hat _ W _ (hmv W hb))
    have k3 := cellAt (o := 3) (keepB h1 hW) rfl
    have hV : Hid (vvV fn (p :: Q) = .tuple #[.agg #[.int .i64 (wv fn (p :: Q)).1, .bool (wv fn (p :: Q)).2], .bool true]) := Lib.hid (if_neg (by simp))
    rw [hV.out]
    generalize (wv fn (p :: Q)).1 = vn at *
    generalize (wv fn (p :: Q)).2 = vo at *
    have hl0 : (((p :: Q).length : Int) == 0) = false := beq_eq_false_iff_ne.2 (by simp; omega)
    generalize (p :: Q).length = n at *
    clear h1 h2 h3 hW hP hrd hmv hat
    go_enter Try.func10, Try.ntmps10
    go_wp2_with fail
    refine CR.out.mono ?_
    rintro e w1 ⟨rfl, rfl⟩
    go_wp2_with fail
    refine wp_region_here 11 [(0, false), (1, false), (2, false), (3, false), (4, false), (5, false), (6, false), (7, false), (8, false), (9, false), (10, false)] (fun _ => .cells #[] 0) (by kernel_rfl) (by kernel_rfl) ?_
    repeat (first | (refine wpP_q rfl rfl rfl ?_; apply Exists.intro; refine ⟨fun w' hw' => ?_, fun K hK => ?_⟩; (focus ((have q0 := keepB H1.out hw'; have j3 := cellAt (o := 3) q0 rfl; have j4 := cellAt (o := 4) q0 rfl; clear q0); go_simp; first | exact quiet_value | with_reducible exact quiet_enter (CV.out _ (HW.out.trans (hw'.mono HW.out.size))))); simp only [Act.put, List.setIfInBounds_toArray, List.set_cons_zero, List.set_cons_succ]; refine hK.out _ ?_; clear hK K) | (refine wpP_skip rfl rfl rfl (fun K hK => ?_); simp only [Act.put, List.setIfInBounds_toArray, List.set_cons_zero, List.set_cons_succ]; refine hK.out _ ?_; clear hK K))
    refine wpP_q rfl rfl rfl ⟨.agg #[.int .i64 vn, .bool vo], fun w' hw' => q_inv (.tmp 25) (.tmp 23) rfl rfl rfl hcm2 (CV.out _ (HW.out.trans (hw'.mono HW.out.size))), fun K hK => ?_⟩
    simp only [Act.put, List.setIfInBounds_toArray, List.set_cons_zero, List.set_cons_succ]
    refine hK.out _ ?_
    clear hK K
    refine wpP_nil ?_
    intro w2 hb2
    have k9 := keepB HX.out hb2
    have m0 := cellAt (o := 0) k9 rfl
    have m1 := cellAt (o := 1) k9 rfl
    have f0 := freeAt 0 k9
    have f1 := freeAt 1 k9
    have HF := Lib.hid (HW.out.trans (hb2.mono HW.out.size))
    clear hb2 k9
    try simp only [List.drop_succ_cons, List.drop_zero]
    go_wp2_with fail
    refine bodyPost_ret (v := .tuple #[.agg #[.int .i64 vn, .bool vo], .bool true]) (by simp only [results, Try.results10]; go_simp) rfl ⟨rfl, ?_⟩
    exact (HF.out.setCell (Nat.le_refl _) _).setCell (Nat.le_refl _) _
/-! ### Len, Time; a slide that nobody made -/
theorem len_made {w : World} {F : Nat → Prop} {s : Nat} {fn span time : Int} {P : List Pt} {K : Nat} (h : SlideW w F s fn span time P K) : Calls Try.prog 13 #[.pointer (some ⟨s, 0, none⟩)] w fun e w' => e = .returned (.int .i64 P.length) ∧ Below w.heap.size w w' := by
  have CR := Lib.hid (right_made h)
  obtain ⟨_, lv, iv, h1, h2, h3⟩ := h
  obtain ⟨A, c, rfl, _⟩ := h2.form
  have k3 := cellAt (o := 3) h1 rfl
  clear h1 h2 h3
  go_enter Try.func13, Try.ntmps13
  go_wp2_with fail
  refine CR.out.mono ?_
  rintro e w1 ⟨rfl, rfl⟩
  go_wp2_with fail
  go_ret
  exact ⟨rfl, Below.refl _ _⟩
theorem time_made {w : World} {F : Nat → Prop} {s : Nat} {fn span time : Int} {P : List Pt} {K : Nat} (h : SlideW w F s fn span time P K) : Calls Try.prog 14 #[.pointer (some ⟨s, 0, none⟩)] w fun e w' => e = .returned (.int .i64 time) ∧ Below w.heap.size w w' := by
  have CR := Lib.hid (right_made h)
  obtain ⟨_, lv, iv, h1, h2, h3⟩ := h
  have k3 := cellAt (o := 2) h1 rfl
  clear h1 h2 h3
  go_enter Try.func14, Try.ntmps14
  go_wp2_with fail
  refine CR.out.mono ?_
  rintro e w1 ⟨rfl, rfl⟩
  go_wp2_with fail
  go_ret
  exact ⟨rfl, Below.refl _ _⟩
theorem len_nil (w : World) : Calls Try.prog 13 #[.pointer none] w fun e w' => e = .returned (.int .i64 0) ∧ Below w.heap.size w w' := by
  go_enter Try.func13, Try.ntmps13
  go_wp2_with fail
  refine (right_nil _).mono ?_
  rintro e w1 ⟨rfl, rfl⟩
  go_wp2_with fail
  go_ret
  exact ⟨rfl, Below.refl _ _⟩
theorem time_nil (w : World) : Calls Try.prog 14 #[.pointer none] w fun e w' => e = .returned (.int .i64 0) ∧ Below w.heap.size w w' := by
  go_enter Try.func14, Try.ntmps14
  go_wp2_with fail
  refine (right_nil _).mono ?_
  rintro e w1 ⟨rfl, rfl⟩
  go_wp2_with fail
  go_ret
  exact ⟨rfl, Below.refl _ _⟩
theorem points_nil (w : World) : Calls Try.prog 15 #[.pointer none] w fun e w' => e = .returned (.slice none 0 0) ∧ Below w.heap.size w w' := by
  go_enter Try.func15, Try.ntmps15
  go_wp2_with fail
  refine (right_nil _).mono ?_
  rintro e w1 ⟨rfl, rfl⟩
  go_wp2_with fail
  go_ret
  exact ⟨rfl, Below.refl _ _⟩
theorem bytes_nil (w : World) : Calls Try.prog 16 #[.pointer none] w fun e w' => e = .returned (.slice none 0 0) ∧ Below w.heap.size w w' := by
  go_enter Try.func16, Try.ntmps16
  go_wp2_with fail
  refine (right_nil _).mono ?_
  rintro e w1 ⟨rfl, rfl⟩
  go_wp2_with fail
  go_ret
  exact ⟨rfl, Below.refl _ _⟩
theorem push_nil (t n : Int) (w : World) : Calls Try.prog 11 #[.pointer none, .int .i64 t, .int .i64 n] w fun e w' => e = .returned (.int .i64 1) ∧ Below w.heap.size w w' := by
  go_enter Try.func11, Try.ntmps11
  go_wp2_with fail
  refine (right_nil _).mono ?_
  rintro e w1 ⟨rfl, rfl⟩
  go_wp2_with fail
  go_ret
  exact ⟨rfl, Below.refl _ _⟩
theorem go_nil (t : Int) (w : World) : Calls Try.prog 12 #[.pointer none, .int .i64 t] w fun e w' => e = .returned (.int .i64 1) ∧ Below w.heap.size w w' := by
  go_enter Try.func12, Try.ntmps12
  go_wp2_with fail
  refine (right_nil _).mono ?_
  rintro e w1 ⟨rfl, rfl⟩
  go_wp2_with fail
  go_ret
  exact ⟨rfl, Below.refl _ _⟩
theorem value_nil (w : World) : Calls Try.prog 10 #[.pointer none] w fun e w' => e = .returned (.tuple #[.agg #[.int .i64 0, .bool false], .bool false]) ∧ Below w.heap.size w w' := by
  have HW := Lib.hid (below_alloc (Below.refl w.heap.size w) (.cells #[.int .i64 0, .bool false] 25))
  have m0 := cellAt (o := 0) (newB w (.cells #[.int .i64 0, .bool false] 25)) rfl
  have m1 := cellAt (o := 1) (newB w (.cells #[.int .i64 0, .bool false] 25)) rfl
  have f0 := freeAt 0 (newB w (.cells #[.int .i64 0, .bool false] 25))
  have f1 := freeAt 1 (newB w (.cells #[.int .i64 0, .bool false] 25))
  go_enter Try.func10, Try.ntmps10
  go_wp2_with fail
  refine (right_nil _).mono ?_
  rintro e w1 ⟨rfl, rfl⟩
  go_wp2_with fail
  exact bodyPost_ret (v := .tuple #[.agg #[.int .i64 0, .bool false], .bool false]) (by simp only [results, Try.results10]; go_simp) rfl ⟨rfl, HW.out⟩
end Go.Proofs.Ytbhkgnhgecchcaa
