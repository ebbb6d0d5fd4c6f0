/- The queue's lives; a queue that nobody made. -/
import Derived.Test.YtjnkcgegmffncaaQLw
import Derived.Test.YtjnkcgegmffncaaQuL
namespace Go.Proofs.Ytjnkcgegmffncaa
open Go.RowKit
theorem qput_nil {A : Option Addr} {n c : Nat} (w : World) : Calls Try.prog 9 #[.pointer none, .slice A n c] w fun e w' => e = .returned (.int .i64 1) ∧ w = w' := by
  go_enter Try.func9, Try.ntmps9
  go_wp2_with fail
  refine (qright_nil _).mono ?_
  rintro e w1 ⟨rfl, rfl⟩
  go_wp2_with fail
  go_ret
  exact ⟨rfl, rfl⟩
/-! ### Items of nothing, compared -/
theorem klabels_nil (w : World) : Calls Try.prog 40 #[.slice none 0 0, .slice none 0 0] w fun e w' => e = .returned (.bool true) ∧ w = w' := by
  go_enter Try.func40, Try.ntmps40
  go_wp2_with fail
  go_loop [5] (fun v => v = .int .i64 0) (fun _ => 0)
  case atStart => rfl
  case round =>
    subst hrel
    go_wp2_with fail
    go_ret
    exact ⟨rfl, rfl⟩
/-- A call that turns an object, its arguments made beside it. -/
theorem LM.turnF {A A' : Ob} {w0 w W : World} (hA : Obj1 A) (h : LM w0 A w) (hb : Below w.heap.size w W) {P : Program} {R : Ending → Prop} {f : Nat} {args : Array Value} (hc : ∀ F, A W F → (∀ k, F k → w0.heap.size ≤ k ∧ k < w.heap.size) → Calls P f args W fun e w' => R e ∧ Goes A' F W w') : Calls P f args W fun e w' => R e ∧ LM w0 A' w' := by
  obtain ⟨h1, F, h2, h3⟩ := h
  refine (hc (fun k => F k ∧ k < w.heap.size) (hA.below (hA.old h2) hb) (fun k hk => ⟨h3 k hk.1, hk.2⟩)).mono ?_
  rintro e w' ⟨hr, F', g1, g2, g3⟩
  have hB : Below w0.heap.size w0 W := h1.trans (hb.mono h1.size)
  refine ⟨hr, hB.trans (g3.below (fun k hk => h3 k hk.1) hB.size), F', g1, fun k hk => ?_⟩
  rcases (g2 k hk).1 with hx | hx
  · exact h3 k hx.1
  · have := hB.size; omega
/-- An item that passes a time. -/
abbrev pI (t : Int) : It := (2, ⟨#[]⟩, (none, 0, []), 0, 0, t, 0, (none, 0, []))
theorem pI_ok {t : Int} (h : 0 ≤ t ∧ t ≤ 1099511627776) : okI (pI t) = true := by
  have h1 : eqI (itC (pI t)) (onlyC (itC (pI t))) = true := eqI_iff.2 rfl
  have h2 : kindOk (itC (pI t)) = true := by simp [kindOk, itC, h]
  unfold okI itE
  rw [h1, h2]; rfl
theorem pI_sm (t : Int) : smI (itC (pI t)) :=
  ⟨⟨by show (0 : Nat) ≤ 300; omega, by show (0 : Nat) ≤ 30; omega, fun x hx => (by cases hx)⟩, ⟨by show (-9223372036854775808 : Int) ≤ 0; omega, by show (0 : Int) ≤ 9223372036854775807; omega⟩, by show (0 : Nat) ≤ 40; omega, fun c hc => (by cases hc)⟩
theorem nil_in (w : World) (G : Nat → Prop) : ItIn w G none [] none [] := ⟨RdLb.nil_, RdCg.nil_, fun _ _ e => (by cases e), fun _ _ e => (by cases e), fun _ hx => (by cases hx)⟩
theorem rdits_lit {W : World} {H n : Nat} {X : List It} (hg : W.heap[H]? = some (.cells (rowF itc X).toArray 38 (0, 0))) (hn : X.length = n) (G : Nat → Prop) (hH : G H) (hX : ∀ x ∈ X, InIt W G x ∧ smI (itC x)) : RdIts W G (some ⟨H, 0, none⟩) n X := by
  subst hn
  exact ⟨rfl, ⟨rowF_len (s := 8) (fun _ => rfl) X, fun _ => ⟨_, rfl, only_lt hg, World.news_of_block hg⟩⟩, fun _ ad e => (by cases e; exact hH), fun x hx => (hX x hx).1, fun x hx => (hX x hx).2⟩
theorem kchanges_nil (w : World) : Calls Try.prog 24 #[.slice none 0 0, .slice none 0 0] w fun e w' => e = .returned (.bool true) ∧ w = w' := by
  go_enter Try.func24, Try.ntmps24
  go_wp2_with fail
  go_loop [5] (fun v => v = .int .i64 0) (fun _ => 0)
  case atStart => rfl
  case round =>
    subst hrel
    go_wp2_with fail
    go_ret
    exact ⟨rfl, rfl⟩
theorem kseries_nil (w : World) : Calls Try.prog 39 #[.agg #[.string ⟨#[]⟩, .slice none 0 0], .agg #[.string ⟨#[]⟩, .slice none 0 0]] w fun e w' => e = .returned (.bool true) ∧ Below w.heap.size w w' := by
  go_enter Try.func39, Try.ntmps39
  go_wp2_with fail
  refine (klabels_nil _).mono ?_
  rintro e w1 ⟨rfl, rfl⟩
  go_wp2_with fail
  go_ret
  exact ⟨rfl, below_alloc (below_alloc (Below.refl _ _) _) _⟩
theorem ksample_nil (w : World) : Calls Try.prog 23 #[.agg #[.string ⟨#[]⟩, .slice none 0 0, .int .i64 0, .int .i64 0], .agg #[.string ⟨#[]⟩, .slice none 0 0, .int .i64 0, .int .i64 0]] w fun e w' => e = .returned (.bool true) ∧ Below w.heap.size w w' := by
  have HX := Lib.hid (keepA (newB w (.cells #[.string ⟨#[]⟩, .slice none 0 0, .int .i64 0, .int .i64 0] 33)) (.cells #[.string ⟨#[]⟩, .slice none 0 0, .int .i64 0, .int .i64 0] 33))
  have HY := Lib.hid (newB (w.alloc (.cells #[.string ⟨#[]⟩, .slice none 0 0, .int .i64 0, .int .i64 0] 33)) (.cells #[.string ⟨#[]⟩, .slice none 0 0, .int .i64 0, .int .i64 0] 33))
  have HB := Lib.hid (below_alloc (below_alloc (Below.refl w.heap.size w) (.cells #[.string ⟨#[]⟩, .slice none 0 0, .int .i64 0, .int .i64 0] 33)) (.cells #[.string ⟨#[]⟩, .slice none 0 0, .int .i64 0, .int .i64 0] 33))
  rw [alloc_size] at HY
  go_enter Try.func23, Try.ntmps23
  go_wp2_with fail
  refine (kseries_nil _).mono ?_
  rintro e w1 ⟨rfl, hb1⟩
  have HB1 := Lib.hid (HB.out.trans (hb1.mono HB.out.size))
  have d2 := cellAt (o := 2) (keepB HX.out hb1) rfl
  have d3 := cellAt (o := 3) (keepB HX.out hb1) rfl
  have e2 := cellAt (o := 2) (keepB HY.out hb1) rfl
  have e3 := cellAt (o := 3) (keepB HY.out hb1) rfl
  clear hb1
  go_wp2_with fail
  go_ret
  exact ⟨rfl, HB1.out⟩
theorem item_nil (w : World) : Calls Try.prog 10 #[zItV, zItV] w fun e w' => e = .returned (.bool true) ∧ Below w.heap.size w w' := by
  have HX := Lib.hid (keepA (newB w (Obj.cells #[.int .i64 0, .string ⟨#[]⟩, .slice none 0 0, .int .i64 0, .int .i64 0, .int .i64 0, .int .i64 0, .slice none 0 0] 38)) (Obj.cells #[.int .i64 0, .string ⟨#[]⟩, .slice none 0 0, .int .i64 0, .int .i64 0, .int .i64 0, .int .i64 0, .slice none 0 0] 38))
  have HY := Lib.hid (newB (w.alloc (Obj.cells #[.int .i64 0, .string ⟨#[]⟩, .slice none 0 0, .int .i64 0, .int .i64 0, .int .i64 0, .int .i64 0, .slice none 0 0] 38)) (Obj.cells #[.int .i64 0, .string ⟨#[]⟩, .slice none 0 0, .int .i64 0, .int .i64 0, .int .i64 0, .int .i64 0, .slice none 0 0] 38))
  have HB := Lib.hid (below_alloc (below_alloc (Below.refl w.heap.size w) (Obj.cells #[.int .i64 0, .string ⟨#[]⟩, .slice none 0 0, .int .i64 0, .int .i64 0, .int .i64 0, .int .i64 0, .slice none 0 0] 38)) (Obj.cells #[.int .i64 0, .string ⟨#[]⟩, .slice none 0 0, .int .i64 0, .int .i64 0, .int .i64 0, .int .i64 0, .slice none 0 0] 38))
  rw [alloc_size] at HY
  go_enter Try.func10, Try.ntmps10
  go_wp2_with fail
  refine (ksample_nil _).mono ?_
  rintro e w1 ⟨rfl, hb1⟩
  have HB1 := Lib.hid (HB.out.trans (hb1.mono HB.out.size))
  have d6 := cellAt (o := 6) (keepB HX.out hb1) rfl
  have d7 := cellAt (o := 7) (keepB HX.out hb1) rfl
  have e6 := cellAt (o := 6) (keepB HY.out hb1) rfl
  have e7 := cellAt (o := 7) (keepB HY.out hb1) rfl
  clear hb1
  go_wp2_with fail
  refine (kchanges_nil _).mono ?_
  rintro e w2 ⟨rfl, rfl⟩
  go_wp2_with fail
  go_ret
  exact ⟨rfl, HB1.out⟩
/-- New: the law's first object. -/
theorem qnew_lm {w0 w : World} (hb : Below w0.heap.size w0 w) {N : Nat} (h1 : 1 ≤ N) (h2 : N ≤ 4096) : Calls Try.prog 17 #[.int .i64 (N : Int)] w fun e w' => ∃ q, e = .returned (.tuple #[qptr q, .int .i64 0]) ∧ LM w0 (QuO q N []) w' := by
  refine (qnew_any h1 h2 w).mono ?_
  rintro e w' ⟨q, h3, h4, h5, h6⟩
  exact ⟨q, h3, LM.first hb h6 h5 (fun k e => e)⟩
theorem qput_r {w : World} {F G : Nat → Prop} {q N n c : Nat} {Q Q1 : List ItC} {A : Option Addr} {X : List It} {x1 : Int} (hr : putR N Q X = (x1, Q1)) (h : QuO q N Q w F) (hX : RdIts w G A n X) (hG : ∀ k, k < w.heap.size → G k → ¬ F k) (hn : n ≤ 1000000) :
    Calls Try.prog 9 #[qptr q, .slice A n c] w fun e w' => e = .returned (.int .i64 x1) ∧ Goes (QuO q N Q1) F w w' := by
  have := qput_any (c := c) h hX hG hn
  rw [hr] at this; exact this
theorem pI_in (w : World) (G : Nat → Prop) {t : Int} : InIt w G (pI t) ∧ smI (itC (pI t)) := ⟨nil_in w G, pI_sm t⟩
theorem put_two : putR 2 [] [pI 1, pI 2] = (0, [itC (pI 1), itC (pI 2)]) := by
  unfold putR
  rw [if_neg (by simp [pI_ok]), if_neg (by simp)]; rfl
theorem put_three : putR 2 [itC (pI 1), itC (pI 2)] [pI 3] = (9, [itC (pI 1), itC (pI 2)]) := by
  unfold putR
  rw [if_neg (by simp [pI_ok]), if_pos (by simp)]
theorem put_four : putR 2 [itC (pI 2)] [pI 3, pI 4] = (9, [itC (pI 2)]) := by
  unfold putR
  rw [if_neg (by simp [pI_ok]), if_pos (by simp)]
/-- Take, of a law's own queue. -/
theorem qtake_lm {w0 w : World} {q N : Nat} {x0 : ItC} {Qr : List ItC} (h : LM w0 (QuO q N (x0 :: Qr)) w) : Calls Try.prog 7 #[qptr q] w fun e w' => ∃ y : It, e = .returned (.tuple #[itA y, .int .i64 0]) ∧ itC y = x0 ∧ InIt w' (fun k => w.heap.size ≤ k) y ∧ LM w0 (QuO q N Qr) w' := by
  obtain ⟨h1, F, h2, h3⟩ := h
  refine (qtake_some h2).mono ?_
  rintro e w' ⟨y, e1, e2, e3, F', g1, g2, g3⟩
  refine ⟨y, e1, e2, e3, h1.trans (g3.below h3 h1.size), F', g1, fun k hk => ?_⟩
  rcases (g2 k hk).1 with hx | hx
  · exact h3 k hx
  · have := h1.size; omega
set_option maxHeartbeats 8000000 in
set_option maxRecDepth 100000 in
theorem lives_any (w : World) : Calls Try.prog 5 #[] w fun e w' => e = .returned (.bool true) ∧ Below w.heap.size w w' := by
  have C0 : Hid (Calls Try.prog 17 #[.int .i64 2] w fun e w' => ∃ q, e = .returned (.tuple #[qptr q, .int .i64 0]) ∧ LM w (QuO q 2 []) w') := Lib.hid (qnew_lm (N := 2) (Below.refl w.heap.size w) (by decide) (by decide))
  go_enter Try.func5, Try.ntmps5
  go_wp2_with fail
  refine C0.out.mono ?_
  rintro e w1 ⟨q, rfl, h1⟩
  have HS := Lib.hid h1
  clear h1 C0
  go_wp2_with fail
  refine (pass_any 1 _).mono ?_
  rintro e w2 ⟨rfl, hb2⟩
  have HB2 := Lib.hid hb2
  clear hb2
  go_wp2_with fail
  refine (pass_any 2 _).mono ?_
  rintro e w3 ⟨rfl, hb3⟩
  have HB3 := Lib.hid (HB2.out.trans (hb3.mono HB2.out.size))
  have HW := Lib.hid (below_alloc HB3.out (.cells #[.int .i64 2, .string ⟨#[]⟩, .slice none 0 0, .int .i64 0, .int .i64 0, .int .i64 1, .int .i64 0, .slice none 0 0, .int .i64 2, .string ⟨#[]⟩, .slice none 0 0, .int .i64 0, .int .i64 0, .int .i64 2, .int .i64 0, .slice none 0 0] 38))
  have HRw : Hid (RdIts (w3.alloc (.cells #[.int .i64 2, .string ⟨#[]⟩, .slice none 0 0, .int .i64 0, .int .i64 0, .int .i64 1, .int .i64 0, .slice none 0 0, .int .i64 2, .string ⟨#[]⟩, .slice none 0 0, .int .i64 0, .int .i64 0, .int .i64 2, .int .i64 0, .slice none 0 0] 38)) (fun k => (w1).heap.size ≤ k) (some ⟨w3.heap.size, 0, none⟩) 2 [pI 1, pI 2]) := Lib.hid (rdits_lit (X := [pI 1, pI 2]) (newB _ _) rfl _ HB3.out.size (fun x hx => by
    simp only [List.mem_cons, List.not_mem_nil, or_false] at hx
    rcases hx with rfl | rfl <;> exact pI_in _ _))
  clear hb3
  go_wp2_with fail
  refine (HS.out.turnF (QuO.obj _ _ _) HW.out (fun F h hF => qput_r put_two h HRw.out (fun k _ hk hf => by have h1 := (hF k hf).2; have h2 : (w1).heap.size ≤ k := hk; omega) (by omega))).mono ?_
  rintro e w4 ⟨rfl, h4⟩
  replace HS := Lib.hid h4
  clear h4 HRw HW HB2 HB3
  go_wp2_with fail
  refine (pass_any 3 _).mono ?_
  rintro e w3 ⟨rfl, hb3⟩
  have HW := Lib.hid (below_alloc hb3 (.cells #[.int .i64 2, .string ⟨#[]⟩, .slice none 0 0, .int .i64 0, .int .i64 0, .int .i64 3, .int .i64 0, .slice none 0 0] 38))
  have HRw : Hid (RdIts (w3.alloc (.cells #[.int .i64 2, .string ⟨#[]⟩, .slice none 0 0, .int .i64 0, .int .i64 0, .int .i64 3, .int .i64 0, .slice none 0 0] 38)) (fun k => (w4).heap.size ≤ k) (some ⟨w3.heap.size, 0, none⟩) 1 [pI 3]) := Lib.hid (rdits_lit (X := [pI 3]) (newB _ _) rfl _ hb3.size (fun x hx => by rw [List.mem_singleton.1 hx]; exact pI_in _ _))
  clear hb3
  go_wp2_with fail
  refine (HS.out.turnF (QuO.obj _ _ _) HW.out (fun F h hF => qput_r put_three h HRw.out (fun k _ hk hf => by have h1 := (hF k hf).2; have h2 : (w4).heap.size ≤ k := hk; omega) (by omega))).mono ?_
  rintro e w4 ⟨rfl, h4⟩
  replace HS := Lib.hid h4
  clear h4 HRw HW
  go_wp2_with fail
  refine (qtake_lm HS.out).mono ?_
  rintro e w5 ⟨⟨k, m, ⟨la, lc, L⟩, t, n, tm, bt, ca, cc, C⟩, rfl, hy, hyi, h5⟩
  obtain rfl : tm = 1 := congrArg (fun x : ItC => x.2.2.2.2.2.1) hy
  replace HS := Lib.hid h5
  simp only [itA, lsV]
  obtain ⟨l1, hl1⟩ : ∃ n, L.length = n := ⟨_, rfl⟩
  obtain ⟨l2, hl2⟩ : ∃ n, C.length = n := ⟨_, rfl⟩
  rw [hl1, hl2]
  clear hy hyi h5 hl1 hl2
  go_wp2_with fail
  have HX := Lib.hid (newB w5 (.cells #[.int .i64 k, .string m, .slice la l1 lc, .int .i64 t, .int .i64 n, .int .i64 1, .int .i64 bt, .slice ca l2 cc] 38))
  have HA := Lib.hid (below_alloc (Below.refl w5.heap.size w5) (.cells #[.int .i64 k, .string m, .slice la l1 lc, .int .i64 t, .int .i64 n, .int .i64 1, .int .i64 bt, .slice ca l2 cc] 38))
  replace HS := Lib.hid (HS.out.go (QuO.obj _ _ _) HA.out)
  obtain ⟨w6, hw6⟩ : ∃ w6, w5.alloc (.cells #[.int .i64 k, .string m, .slice la l1 lc, .int .i64 t, .int .i64 n, .int .i64 1, .int .i64 bt, .slice ca l2 cc] 38) = w6 := ⟨_, rfl⟩
  rw [hw6] at HX HS ⊢
  clear hw6 HA
  have d5 := cellAt (o := 5) HX.out rfl
  refine (HS.out.read (fun F h => qroom_any (m := 1) h rfl)).mono ?_
  rintro e w7 ⟨rfl, hb7⟩
  replace HS := Lib.hid (HS.out.go (QuO.obj _ _ _) hb7)
  clear hb7 d5
  go_wp2_with fail
  refine (pass_any 3 _).mono ?_
  rintro e w2 ⟨rfl, hb2⟩
  have HB2 := Lib.hid hb2
  clear hb2
  go_wp2_with fail
  refine (pass_any 4 _).mono ?_
  rintro e w3 ⟨rfl, hb3⟩
  have HB3 := Lib.hid (HB2.out.trans (hb3.mono HB2.out.size))
  have HW := Lib.hid (below_alloc HB3.out (.cells #[.int .i64 2, .string ⟨#[]⟩, .slice none 0 0, .int .i64 0, .int .i64 0, .int .i64 3, .int .i64 0, .slice none 0 0, .int .i64 2, .string ⟨#[]⟩, .slice none 0 0, .int .i64 0, .int .i64 0, .int .i64 4, .int .i64 0, .slice none 0 0] 38))
  have HRw : Hid (RdIts (w3.alloc (.cells #[.int .i64 2, .string ⟨#[]⟩, .slice none 0 0, .int .i64 0, .int .i64 0, .int .i64 3, .int .i64 0, .slice none 0 0, .int .i64 2, .string ⟨#[]⟩, .slice none 0 0, .int .i64 0, .int .i64 0, .int .i64 4, .int .i64 0, .slice none 0 0] 38)) (fun k => (w7).heap.size ≤ k) (some ⟨w3.heap.size, 0, none⟩) 2 [pI 3, pI 4]) := Lib.hid (rdits_lit (X := [pI 3, pI 4]) (newB _ _) rfl _ HB3.out.size (fun x hx => by
    simp only [List.mem_cons, List.not_mem_nil, or_false] at hx
    rcases hx with rfl | rfl <;> exact pI_in _ _))
  clear hb3
  go_wp2_with fail
  refine (HS.out.turnF (QuO.obj _ _ _) HW.out (fun F h hF => qput_r put_four h HRw.out (fun k _ hk hf => by have h1 := (hF k hf).2; have h2 : (w7).heap.size ≤ k := hk; omega) (by omega))).mono ?_
  rintro e w4 ⟨rfl, h4⟩
  replace HS := Lib.hid h4
  clear h4 HRw HW HB2 HB3
  go_wp2_with fail
  refine (HS.out.read (fun F h => qlen_any (n := 1) h rfl)).mono ?_
  rintro e w8 ⟨rfl, rfl⟩
  go_wp2_with fail
  go_ret
  exact ⟨rfl, HS.out.below⟩
end Go.Proofs.Ytjnkcgegmffncaa
