/- A slide goes on: to, Go, Push. -/
import Derived.Test.YtbhkgnhgecchcaaSlO
namespace Go.Proofs.Ytbhkgnhgecchcaa
open Go.RowKit
theorem RowAt.tail' {w : World} {F : Nat → Prop} {e : TypeId} {size n c d : Nat} {A A' : Option Addr} {xs : List Value} (h : RowAt w F e size (.slice A (n + 1) c) (n + 1) xs) (hA : A' = if c = 1 then A else A.map (·.add size)) (hd : d = c - 1) : RowAt w F e size (.slice A' n d) n (xs.drop size) := by
  subst hA hd; exact h.tail_
/-- Gone: points up to a time. -/
def gone (b : Int) (P : List Pt) : List Pt := P.dropWhile fun p => decide (p.1 ≤ b)
theorem gone_yes {b : Int} {p : Pt} {P : List Pt} (h : p.1 ≤ b) : gone b (p :: P) = gone b P := by simp [gone, h]
theorem gone_no {b : Int} {p : Pt} {P : List Pt} (h : ¬ p.1 ≤ b) : gone b (p :: P) = p :: P := by simp [gone, h]
structure Sane (P : List Pt) : Prop where
  rise : Rise P
  nums : ∀ p ∈ P, In64 p.2
  times : ∀ p ∈ P, 1 ≤ p.1 ∧ p.1 ≤ 1099511627776
  len : P.length ≤ 1099511627775
theorem Sane.suffix {P Q R : List Pt} (h : Sane P) (e : P = Q ++ R) : Sane R := by
  subst e
  refine ⟨(List.pairwise_append.1 h.rise).2.1, fun p hp => h.nums p (List.mem_append_right _ hp), fun p hp => h.times p (List.mem_append_right _ hp), ?_⟩
  have := h.len; rw [List.length_append] at this; omega
theorem SlideW.cut {w2 : World} {F : Nat → Prop} {s K c d n : Nat} {fn span time : Int} {p : Pt} {Q : List Pt} {A A' : Option Addr} {iv : Value} (hs : F s) (h1 : w2.heap[s]? = some (.cells #[.int .i64 fn, .int .i64 span, .int .i64 time, .slice A (n + 1) c, iv] 63 (0, 0)))
    (h2 : RowAt w2 (fun k => F k ∧ k ≠ s) 54 3 (.slice A (n + 1) c) (n + 1) (pcs (p :: Q))) (h3 : MkW w2 (fun k => F k ∧ k ≠ s ∧ (Value.slice A (n + 1) c).ownBlock ≠ some k) fn iv Q K) (hn : n = Q.length) (hA : A' = if c = 1 then A else A.map (·.add 3)) (hd : d = c - 1) :
    SlideW (w2.setCell ⟨s, 3, none⟩ (.slice A' n d)) F s fn span time Q K := by
  have ho := Only.set w2 s 3 (.slice A' n d)
  refine ⟨hs, .slice A' n d, iv, by rw [setCell_get h1]; rfl, ?_, ?_⟩
  · have := (h2.tail' hA hd).keep ho (fun k hk _ e => hk.2 e)
    rw [pcs_drop3] at this
    rw [← hn]; exact this
  · refine (h3.weak (N := fun k => F k ∧ k ≠ s ∧ (Value.slice A' n d).ownBlock ≠ some k) (fun k _ hk => ⟨hk.1, hk.2.1, fun e => hk.2.2 ?_⟩)).keep ho (fun k hk _ e => hk.2.1 e)
    subst hA
    cases A with
    | none => split at e <;> cases e
    | some a =>
      split at e
      · exact e
      · simp only [Option.map_some, Value.ownBlock, block_of_add] at e
        exact e
set_option maxRecDepth 100000 in
theorem to_any {w : World} {F : Nat → Prop} {s : Nat} {fn span t0 : Int} {P : List Pt} {K : Nat} (h : SlideW w F s fn span t0 P K) (hP : Sane P) (time : Int) (ht0 : 0 ≤ time) (ht : time ≤ 1099511627776) (hs1 : 1 ≤ span) (hs2 : span ≤ 1073741824) (hK : K ≤ 1099511627775) :
    Calls Try.prog 32 #[.pointer (some ⟨s, 0, none⟩), .int .i64 time] w fun e w' => e = .returned (.tuple #[]) ∧ SlideW w' F s fn span time (gone (time - span) P) K ∧ Only F w w' := by
  have HI : Hid (SlideW (w.setCell ⟨s, 2, none⟩ (.int .i64 time)) F s fn span time P K) := Lib.hid (by
    obtain ⟨hs, lv, iv, h1, h2, h3⟩ := h
    have ho := Only.set w s 2 (.int .i64 time)
    exact ⟨hs, lv, iv, by rw [setCell_get h1]; rfl, h2.keep ho (fun k hk _ e => hk.2 e), h3.keep ho (fun k hk _ e => hk.2.1 e)⟩)
  obtain ⟨hFs, lv, iv, h1, _, _⟩ := h
  have HO : Hid (Only F w (w.setCell ⟨s, 2, none⟩ (.int .i64 time))) := Lib.hid ((Only.set w s 2 (.int .i64 time)).mono (fun k _ hk => hk ▸ hFs))
  have k2 := cellAt (o := 2) h1 rfl
  have f2 := freeAt 2 h1
  have HP := Lib.hid hP
  clear h1 hP
  go_enter Try.func32, Try.ntmps32
  go_wp2_with fail
  clear k2 f2
  go_loopg [] P.length (fun k wr => ∃ (Q R : List Pt), k = R.length ∧ Hid (P = Q ++ R) ∧ Hid (gone (time - span) P = gone (time - span) R) ∧ Hid (SlideW wr F s fn span time R K) ∧ Hid (Only F w wr))
  case atStart => exact ⟨[], P, rfl, rfl, rfl, HI, HO⟩
  case round =>
    obtain ⟨Q, R, rfl, HQ, HG, HS, HO⟩ := hrel
    have HSane := Lib.hid (HP.out.suffix HQ.out)
    have HS0 := HS
    obtain ⟨hFs, lv, iv, h1, h2, h3⟩ := HS.out
    have H1 := Lib.hid h1
    have H2 := Lib.hid h2
    have H3 := Lib.hid h3
    clear h1 h3 HI
    cases R with
    | nil =>
      obtain ⟨A, c, rfl, _⟩ := h2.form
      clear h2
      go_wp2_with fail
      refine wp_region_here 21 [(0, false), (1, false), (2, false), (3, false), (4, false), (5, false), (6, false), (7, false), (8, false), (9, false), (10, false), (11, false), (12, false), (13, false), (14, false), (15, false), (16, false), (17, false), (18, false), (19, false), (20, false)] (fun _ => .cells #[] 0) (by kernel_rfl) (by kernel_rfl) ?_
      repeat (first | (refine wpP_q rfl rfl rfl ?_; apply Exists.intro; refine ⟨fun w' hw' => ?_, fun K hK => ?_⟩; (focus ((have q0 := keepB H1.out hw'; have k1 := cellAt (o := 1) q0 rfl; have k3 := cellAt (o := 3) q0 rfl; clear q0); go_simp; first | exact quiet_value | fail)); simp only [Act.put, List.setIfInBounds_toArray, List.set_cons_zero, List.set_cons_succ]; refine hK.out _ ?_; clear hK K) | (refine wpP_skip rfl rfl rfl (fun K hK => ?_); simp only [Act.put, List.setIfInBounds_toArray, List.set_cons_zero, List.set_cons_succ]; refine hK.out _ ?_; clear hK K))
      refine wpP_nil ?_
      intro w1 hb1
      have HS1 := Lib.hid (HS0.out.below hb1)
      have HO1 := Lib.hid (HO.out.trans (Only.of_below hb1))
      clear hb1
      try simp only [List.drop_succ_cons, List.drop_zero]
      go_wp2_with fail
      go_end0
      exact ⟨rfl, by rw [HG.out]; exact HS1.out, HO1.out⟩
    | cons p R =>
      obtain ⟨g, o, c, rfl, hnc, hcm, hrd⟩ := h2.ad (by simp)
      obtain ⟨hgl, hpt⟩ := RPt.pt (P := p :: R) hrd (k := 0) (by simp)
      simp only [List.getElem_cons_zero, Nat.zero_mul, Nat.add_zero] at hpt
      have HPt := Lib.hid hpt
      have HGl := Lib.hid hgl
      have HRd := Lib.hid hrd
      have htm := HSane.out.times p (by simp)
      rw [List.length_cons] at H1 H2 H3 hnc
      have hl0 : (0 : Nat) < R.length + 1 := by omega
      have hl1 : (0 : Int) < (R.length : Int) + 1 := by omega
      have hnb := HSane.out.len
      rw [List.length_cons] at hnb
      have hwr : IntKind.i64.wrap (time - span) = time - span := by rw [IntKind.wrap_i64]; omega
      clear h2 hrd hpt hgl
      obtain ⟨pt, pn⟩ := p
      simp only at htm
      have hx1 : 0 < R.length + 1 := by omega
      by_cases hgo : pt ≤ time - span
      · have HGo := Lib.hid hgo
        go_wp2_with fail
        refine wp_region_here 21 [(0, false), (1, false), (2, false), (3, false), (4, false), (5, false), (6, false), (7, false), (8, false), (9, false), (10, false), (11, false), (12, false), (13, false), (14, false), (15, false), (16, false), (17, false), (18, false), (19, false), (20, false)] (fun _ => .cells #[] 0) (by kernel_rfl) (by kernel_rfl) ?_
        repeat (first | (refine wpP_q rfl rfl rfl ?_; apply Exists.intro; refine ⟨fun w' hw' => ?_, fun K hK => ?_⟩; (focus ((have q0 := keepB H1.out hw'; have k1 := cellAt (o := 1) q0 rfl; have k3 := cellAt (o := 3) q0 rfl; have qp := HPt.out.below HGl.out hw'; unfold PtAt at qp; obtain ⟨p0, p1, p2⟩ := qp; clear q0); go_simp; first | exact quiet_value | fail)); simp only [Act.put, List.setIfInBounds_toArray, List.set_cons_zero, List.set_cons_succ]; refine hK.out _ ?_; clear hK K) | (refine wpP_skip rfl rfl rfl (fun K hK => ?_); simp only [Act.put, List.setIfInBounds_toArray, List.set_cons_zero, List.set_cons_succ]; refine hK.out _ ?_; clear hK K))
        refine wpP_nil ?_
        intro w1 hb1
        try simp only [List.drop_succ_cons, List.drop_zero]
        have H1b := Lib.hid (keepB H1.out hb1)
        have H2b := Lib.hid (H2.out.below hb1)
        have hrb := RPt.below (P := (pt, pn) :: R) HRd.out hb1
        have h3b := H3.out.below hb1
        have HB1 := Lib.hid hb1
        have hmp := fun W (hb : Below w1.heap.size w1 W) => mk_pop (n := R.length + 1) (h3b.below hb) g o c (hrb.below hb) rfl HSane.out.nums HSane.out.rise hK
        obtain ⟨T, rv, f, rfl, hcm2, hat⟩ := (hmp w1 (Below.refl _ _)).at_
        have CV := Lib.hid (fun W (hb : Below w1.heap.size w1 W) => hat _ W _ (hmp W hb))
        have HCM := Lib.hid hcm2
        have HNS : Hid (∀ p ∈ [(s, Obj.cells #[.int .i64 fn, .int .i64 span, .int .i64 time, .slice (some ⟨g, o, none⟩) (R.length + 1) c, .iface T rv] 63)], ¬ (F p.1 ∧ p.1 ≠ s ∧ (Value.slice (some ⟨g, o, none⟩) (R.length + 1) c).ownBlock ≠ some p.1)) := Lib.hid (fun p hp h => by
          simp only [List.mem_cons, List.not_mem_nil, or_false] at hp
          subst hp; exact h.2.1 rfl)
        have HFC : Hid (FC w1 (fun k => F k ∧ k ≠ s ∧ (Value.slice (some ⟨g, o, none⟩) (R.length + 1) c).ownBlock ≠ some k) [(s, Obj.cells #[.int .i64 fn, .int .i64 span, .int .i64 time, .slice (some ⟨g, o, none⟩) (R.length + 1) c, .iface T rv] 63)] w1) := Lib.hid ⟨Only.refl _ _, fun p hp => by
          simp only [List.mem_cons, List.not_mem_nil, or_false] at hp
          subst hp; exact H1b.out⟩
        clear hb1 hrb h3b hmp hat hcm2
        go_wp2_with fail
        refine wp_region_two 11 [(0, false), (1, false), (2, false), (3, false), (4, false), (5, false), (6, false), (7, false), (8, false), (9, false), (10, true)] [] [] rfl (FC w1 (fun k => F k ∧ k ≠ s ∧ (Value.slice (some ⟨g, o, none⟩) (R.length + 1) c).ownBlock ≠ some k) [(s, Obj.cells #[.int .i64 fn, .int .i64 span, .int .i64 time, .slice (some ⟨g, o, none⟩) (R.length + 1) c, .iface T rv] 63)]) (D0 w1) (by kernel_rfl) (by kernel_rfl) FC.stab (D0.stab w1) (FC.stab _ _ HFC.out (Below.refl _ _).drew) (Below.refl _ _).drew ?_
        repeat (first | (refine wt_q rfl rfl ?_; apply Exists.intro; refine ⟨fun w' hw' => ?_, fun K hK => ?_⟩; (focus ((have q0 := hw'.get 0 rfl; have j3 := cellAt (o := 3) q0 rfl; have j4 := cellAt (o := 4) q0 rfl; clear q0); go_simp; first | exact quiet_value | fail)); simp only [Act.put, List.setIfInBounds_toArray, List.set_cons_zero, List.set_cons_succ]; refine hK.out _ ?_; clear hK K) | (refine wt_skip rfl rfl (fun K hK => ?_); simp only [Act.put, List.setIfInBounds_toArray, List.set_cons_zero, List.set_cons_succ]; refine hK.out _ ?_; clear hK K))
        refine wt_step rfl (fun _ => Triv) (fun _ W => MkW W (fun k => F k ∧ k ≠ s ∧ (Value.slice (some ⟨g, o, none⟩) (R.length + 1) c).ownBlock ≠ some k) fn (.iface T rv) R K) (fun _ _ _ _ _ => triv _) (fun _ _ _ h hb => h.below hb) rfl rfl (fun w' hc hd => st_inv (.tmp 39) (.tmp 37) rfl rfl rfl HCM.out ((CV.out w' hd).mono fun e w'' h => ⟨_, h.1, FC.step HNS.out _ _ hc h.2.2, triv _, h.2.1⟩)) (fun K hK v => ?_)
        simp only [Act.put, List.setIfInBounds_toArray, List.set_cons_zero, List.set_cons_succ]
        refine hK.out _ _ _ ?_
        clear hK K
        refine wt_nil ?_
        rintro w2 ⟨hc2, _⟩ hm2
        have h2c := H2b.out.keep' hc2.only (fun k hk e => e.2.2 hk)
        have q0 := hc2.get 0 rfl
        have j3 := cellAt (o := 3) q0 rfl
        have f3 := freeAt 3 q0
        have HCut := Lib.hid (fun (A' : Option Addr) (d : Nat) hA hd => SlideW.cut (A' := A') (d := d) hFs q0 h2c hm2 rfl hA hd)
        have HO2 := Lib.hid (((HO.out.trans (Only.of_below HB1.out)).then hc2.only (fun k _ hk => hk.1)))
        have HG2 := Lib.hid (HG.out.trans (gone_yes HGo.out))
        clear q0 h2c hm2 hc2 hgo
        try simp only [List.drop_succ_cons, List.drop_nil]
        by_cases hc : c = 1
        · go_wp2_with fail
          go_roundg R.length
          case measure => simp
          case rel => exact ⟨Q ++ [(pt, pn)], R, by first | rfl | trivial, Lib.hid (by rw [HQ.out]; simp), HG2, Lib.hid (HCut.out _ _ (by rw [if_pos hc]) (by omega)), Lib.hid (HO2.out.trans ((Only.set _ _ _ _).mono (fun k _ hk => hk ▸ hFs)))⟩
        · go_wp2_with fail
          go_roundg R.length
          case measure => simp
          case rel => exact ⟨Q ++ [(pt, pn)], R, by first | rfl | trivial, Lib.hid (by rw [HQ.out]; simp), HG2, Lib.hid (HCut.out _ _ (by rw [if_neg hc]; rfl) (by omega)), Lib.hid (HO2.out.trans ((Only.set _ _ _ _).mono (fun k _ hk => hk ▸ hFs)))⟩
      · have HE := Lib.hid (gone_no (P := R) (p := (pt, pn)) hgo)
        go_wp2_with fail
        refine wp_region_here 21 [(0, false), (1, false), (2, false), (3, false), (4, false), (5, false), (6, false), (7, false), (8, false), (9, false), (10, false), (11, false), (12, false), (13, false), (14, false), (15, false), (16, false), (17, false), (18, false), (19, false), (20, false)] (fun _ => .cells #[] 0) (by kernel_rfl) (by kernel_rfl) ?_
        repeat (first | (refine wpP_q rfl rfl rfl ?_; apply Exists.intro; refine ⟨fun w' hw' => ?_, fun K hK => ?_⟩; (focus ((have q0 := keepB H1.out hw'; have k1 := cellAt (o := 1) q0 rfl; have k3 := cellAt (o := 3) q0 rfl; have qp := HPt.out.below HGl.out hw'; unfold PtAt at qp; obtain ⟨p0, p1, p2⟩ := qp; clear q0); go_simp; first | exact quiet_value | fail)); simp only [Act.put, List.setIfInBounds_toArray, List.set_cons_zero, List.set_cons_succ]; refine hK.out _ ?_; clear hK K) | (refine wpP_skip rfl rfl rfl (fun K hK => ?_); simp only [Act.put, List.setIfInBounds_toArray, List.set_cons_zero, List.set_cons_succ]; refine hK.out _ ?_; clear hK K))
        refine wpP_nil ?_
        intro w1 hb1
        try simp only [List.drop_succ_cons, List.drop_zero]
        have HS1 := Lib.hid (HS0.out.below hb1)
        have HO1 := Lib.hid (HO.out.trans (Only.of_below hb1))
        clear hb1
        go_wp2_with fail
        go_end0
        exact ⟨rfl, by rw [HG.out, HE.out]; exact HS1.out, HO1.out⟩
end Go.Proofs.Ytbhkgnhgecchcaa
