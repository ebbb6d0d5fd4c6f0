/- A slide's Push. -/
import Derived.Test.YtbhkgnhgecchcaaSlQ
namespace Go.Proofs.Ytbhkgnhgecchcaa
open Go.RowKit
set_option maxRecDepth 100000 in
theorem push_no {w : World} {F : Nat → Prop} {s : Nat} {fn span : Int} {σ : Slst} (h : SlideW w F s fn span σ.time σ.pts σ.k) (t n : Int) (he : pushE σ.time t ≠ 0) :
    Calls Try.prog 11 #[.pointer (some ⟨s, 0, none⟩), .int .i64 t, .int .i64 n] w (MeP F s fn span (stPush span σ t n) w) := by
  have CR := Lib.hid (right_made h)
  have HW := Lib.hid (h.weak (G := fun k => F k ∨ w.heap.size ≤ k) (fun k _ hk => .inl hk))
  obtain ⟨_, lv, iv, h2, _, _⟩ := h
  have k2 := cellAt (o := 2) h2 rfl
  clear h2
  by_cases ha : t < 1 ∨ 1099511627776 < t
  · have HE : Hid (stPush span σ t n = (2, σ)) := Lib.hid (by unfold stPush pushE; rw [if_pos ha]; rfl)
    rw [HE.out]
    clear he
    rcases ha with ha | ha
    all_goals
      go_enter Try.func11, Try.ntmps11
      go_wp2_with fail
      refine CR.out.mono ?_
      rintro e w1 ⟨rfl, rfl⟩
      go_wp2_with fail
      all_goals
        go_ret
        exact ⟨rfl, HW.out, Only.refl _ _⟩
  have ha1 : 1 ≤ t := by omega
  have ha2 : t ≤ 1099511627776 := by omega
  have hb : t ≤ σ.time := by
    unfold pushE at he
    rw [if_neg ha] at he
    by_cases hb : t ≤ σ.time
    · exact hb
    · rw [if_neg hb] at he; exact absurd rfl he
  have HE : Hid (stPush span σ t n = (8, σ)) := Lib.hid (by unfold stPush pushE; rw [if_neg ha, if_pos hb]; rfl)
  rw [HE.out]
  clear ha he
  go_enter Try.func11, Try.ntmps11
  go_wp2_with fail
  refine CR.out.mono ?_
  rintro e w1 ⟨rfl, rfl⟩
  go_wp2_with fail
  go_ret
  exact ⟨rfl, HW.out, Only.refl _ _⟩
/-- The slide behind the append. -/
theorem SlideW.appended {w w2 W : World} {F : Nat → Prop} {s K : Nat} {fn span time : Int} {P : List Pt} {x : Pt} {lv iv v' : Value} (hs : F s) (_h1 : W.heap[s]? = some (.cells #[.int .i64 fn, .int .i64 span, .int .i64 time, lv, iv] 63 (0, 0)))
    (h2 : RowAt w (fun k => F k ∧ k ≠ s) 54 3 lv P.length (pcs P)) (h3 : MkW w (fun k => F k ∧ k ≠ s ∧ lv.ownBlock ≠ some k) fn iv P K) (hsl : s < w.heap.size) (hb : Below w.heap.size w w2)
    (hrow : RowAt W (fun k => lv.ownBlock = some k ∨ k = w2.heap.size) 54 3 v' (P.length + 1) (pcs P ++ pc x)) (ho : Only (fun k => lv.ownBlock = some k) w2 W) :
    RowAt (W.setCell ⟨s, 3, none⟩ v') (fun k => (F k ∨ w.heap.size ≤ k) ∧ k ≠ s) 54 3 v' (P ++ [x]).length (pcs (P ++ [x])) ∧
    MkW (W.setCell ⟨s, 3, none⟩ v') (fun k => (F k ∨ w.heap.size ≤ k) ∧ k ≠ s ∧ v'.ownBlock ≠ some k) fn iv P K ∧ Only F w (W.setCell ⟨s, 3, none⟩ v') := by
  have hset := Only.set W s 3 v'
  have hlt := h2.lt
  have hv := hrow.lt
  have hsz := hb.size
  refine ⟨?_, ?_, ?_⟩
  · rw [List.length_append, List.length_singleton, pcs_append, show pcs [x] = pc x from by simp [pcs]]
    refine (hrow.weak (G := fun k => (F k ∨ w.heap.size ≤ k) ∧ k ≠ s) (fun k _ hk => ?_)).keep hset (fun k hk _ e => hk.2 e)
    rcases hk with hk | hk
    · exact ⟨.inl (hlt k hk).1.1, (hlt k hk).1.2⟩
    · exact ⟨.inr (by omega), by omega⟩
  · have g1 := ((h3.weak (N := fun k => (F k ∧ k < w.heap.size) ∧ k ≠ s ∧ lv.ownBlock ≠ some k) (fun k hk h => ⟨⟨h.1, hk⟩, h.2⟩)).below hb).keep ho (fun k hk _ e => hk.2.2 e)
    refine (g1.weak (N := fun k => (F k ∨ w.heap.size ≤ k) ∧ k ≠ s ∧ v'.ownBlock ≠ some k) (fun k _ hk => ⟨.inl hk.1.1, hk.2.1, fun e => ?_⟩)).keep hset (fun k hk _ e => hk.2.1 e)
    rcases (hv k e).1 with h | h
    · exact hk.2.2 h
    · have := hk.1.2; omega
  · exact ((Only.of_below hb).then ho (fun k _ hk => (hlt k hk).1.1)).then hset (fun k _ hk => hk ▸ hs)
set_option maxHeartbeats 4000000 in
set_option maxRecDepth 100000 in
theorem push_yes {w : World} {F : Nat → Prop} {s : Nat} {fn span : Int} {σ : Slst} (h : SlideW w F s fn span σ.time σ.pts σ.k) (hf : Fit σ) (t n : Int) (hn : In64 n) (he : pushE σ.time t = 0) (hs1 : 1 ≤ span) (hs2 : span ≤ 1073741824) (hl : σ.pts.length ≤ 1099511627774) (hK : σ.k ≤ 1099511627774) :
    Calls Try.prog 11 #[.pointer (some ⟨s, 0, none⟩), .int .i64 t, .int .i64 n] w (MeP F s fn span (stPush span σ t n) w) := by
  obtain ⟨ha1, ha2, ha3⟩ := push_ok he
  have HE : Hid (stPush span σ t n = (0, ⟨t, gone (t - span) (σ.pts ++ [(t, n)]), σ.k + 1⟩)) := Lib.hid (by unfold stPush; rw [if_pos he])
  rw [HE.out]
  have CR := Lib.hid (right_made h)
  have CO := Lib.hid (fun W => of_any n W)
  have HSn := Lib.hid (hf.sane.snoc hf.upto ha3 ha1 ha2 hn hl)
  have HFit := Lib.hid hf
  obtain ⟨t0, P, K⟩ := σ
  simp only at h he ha3 hl hK hf HE HSn ⊢
  obtain ⟨hs, lv, iv, h1, h2, h3⟩ := h
  obtain ⟨T, rv, rfl⟩ := h3.iface
  have hcase : (P.length = 0 ∧ ∃ A c, lv = .slice A P.length c) ∨ (∃ g o c m, ∃ p : Pt, lv = .slice (some ⟨g, o, none⟩) P.length c ∧ P.length = m + 1 ∧ g < w.heap.size ∧ PtAt w g (o + m * 3) p ∧ p.1 ≤ t0) := by
    rcases List.eq_nil_or_concat P with e | ⟨Q, p, e⟩
    · obtain ⟨A, c, hlv, _⟩ := h2.form
      exact .inl ⟨by rw [e]; rfl, A, c, hlv⟩
    · rw [List.concat_eq_append] at e
      have hlen : P.length = Q.length + 1 := by rw [e]; simp
      obtain ⟨g, o, c, hlv, _, _, hrd⟩ := h2.ad (by omega)
      obtain ⟨hg, hp⟩ := RPt.pt (P := P) hrd (k := Q.length) (by omega)
      have hget : P[Q.length]'(by omega) = p := by subst e; simp
      rw [hget] at hp
      exact .inr ⟨g, o, c, Q.length, p, hlv, hlen, hg, hp, hf.upto p (by rw [e]; simp)⟩
  have k2 := cellAt (o := 2) h1 rfl
  have H1 := Lib.hid h1
  have H2 := Lib.hid h2
  have H3 := Lib.hid h3
  have HF := Lib.hid hs
  have hsl := only_lt h1
  have HSL := Lib.hid hsl
  have HL := Lib.hid hl
  have HK9 := Lib.hid hK
  clear h1 h2 h3 hs he hf hsl hl hK
  go_enter Try.func11, Try.ntmps11
  go_wp2_with fail
  refine CR.out.mono ?_
  rintro e w1 ⟨rfl, rfl⟩
  go_wp2_with fail
  rcases hcase with ⟨hl0, A, c, rfl⟩ | ⟨g, o, c, m, p, rfl, hlm, hg, hp, hup⟩
  · have e0 : ¬ (0 : Int) < (P.length : Int) := by omega
    refine wp_region_here 23 [(0, false), (1, false), (2, false), (3, false), (4, false), (5, false), (6, false), (7, false), (8, false), (9, false), (10, false), (11, false), (12, false), (13, false), (14, false), (15, false), (16, false), (17, false), (18, false), (19, false), (20, false), (21, false), (22, false)] (fun _ => .cells #[] 0) (by kernel_rfl) (by kernel_rfl) ?_
    repeat (first | (refine wpP_q rfl rfl rfl ?_; apply Exists.intro; refine ⟨fun w' hw' => ?_, fun K hK => ?_⟩; (focus ((have q0 := keepB H1.out hw'; have j3 := cellAt (o := 3) q0 rfl; clear q0); go_simp; first | exact quiet_value | fail)); simp only [Act.put, List.setIfInBounds_toArray, List.set_cons_zero, List.set_cons_succ]; refine hK.out _ ?_; clear hK K) | (refine wpP_skip rfl rfl rfl (fun K hK => ?_); simp only [Act.put, List.setIfInBounds_toArray, List.set_cons_zero, List.set_cons_succ]; refine hK.out _ ?_; clear hK K))
    refine wpP_nil ?_
    intro w1 hb1
    try simp only [List.drop_succ_cons, List.drop_zero]
    have HB1 := Lib.hid hb1
    clear hb1 e0 hl0
    go_wp2_with fail
    obtain ⟨ip, hip, hz1, hz2, hz3⟩ := info_parts infoP
    have HIP := Lib.hid hip
    have HZ1 := Lib.hid hz1
    have HZ2 := Lib.hid hz2
    have HZ3 := Lib.hid hz3
    clear hip hz1 hz2 hz3
    have H1b := Lib.hid (keepB H1.out HB1.out)
    have H2b := Lib.hid (H2.out.below HB1.out)
    have H3b := Lib.hid (H3.out.below HB1.out)
    have hne : ¬ (Value.slice A P.length c).ownBlock = some s := fun e => (H2.out.lt s e).1.2 rfl
    have HNS : Hid (∀ p ∈ [(s, Obj.cells #[.int .i64 fn, .int .i64 span, .int .i64 t0, .slice A P.length c, .iface T rv] 63)], ¬ (Value.slice A P.length c).ownBlock = some p.1) := Lib.hid (fun p hp h => by
      simp only [List.mem_cons, List.not_mem_nil, or_false] at hp
      subst hp; exact hne h)
    have HFC : Hid (FC w1 (fun k => (Value.slice A P.length c).ownBlock = some k) [(s, Obj.cells #[.int .i64 fn, .int .i64 span, .int .i64 t0, .slice A P.length c, .iface T rv] 63)] w1) := Lib.hid ⟨Only.refl _ _, fun p hp => by
      simp only [List.mem_cons, List.not_mem_nil, or_false] at hp
      subst hp; exact H1b.out⟩
    clear hne
    refine wp_region_two 11 [(0, false), (1, false), (2, false), (3, false), (4, false), (5, false), (6, false), (7, false), (8, false), (9, true), (10, true)] [] [] rfl (FC w1 (fun k => (Value.slice A P.length c).ownBlock = some k) [(s, Obj.cells #[.int .i64 fn, .int .i64 span, .int .i64 t0, .slice A P.length c, .iface T rv] 63)]) (D0 w1) (by kernel_rfl) (by kernel_rfl) FC.stab (D0.stab w1) (FC.stab _ _ HFC.out (Below.refl _ _).drew) (Below.refl _ _).drew ?_
    repeat (first | (refine wt_q rfl rfl ?_; apply Exists.intro; refine ⟨fun w' hw' => ?_, fun K hK => ?_⟩; (focus ((have q0 := hw'.get 0 rfl; have j3 := cellAt (o := 3) q0 rfl; clear q0); go_simp; first | exact quiet_value | with_reducible exact quiet_enter (CO.out _))); simp only [Act.put, List.setIfInBounds_toArray, List.set_cons_zero, List.set_cons_succ]; refine hK.out _ ?_; clear hK K) | (refine wt_skip rfl rfl (fun K hK => ?_); simp only [Act.put, List.setIfInBounds_toArray, List.set_cons_zero, List.set_cons_succ]; refine hK.out _ ?_; clear hK K))
    refine wt_bs 54 #[.int .i64 t, .int .i64 n, .bool false] rfl rfl rfl (fun w' hc hd => ?_) (fun K' hK' v => ?_)
    focus
      have HCd := Lib.hid (And.intro hc hd)
      clear hc hd
      go_simp
      exact bs_res HCd.out.1 HCd.out.2 rfl
    simp only [Act.put, List.setIfInBounds_toArray, List.set_cons_zero, List.set_cons_succ]
    refine hK'.out _ _ _ ?_
    clear hK' K'
    refine wt_ap 3 (P.length + 1) (pcs P ++ pc (t, n)) rfl rfl rfl (fun w' hc hd => ?_) (fun K' hK' v' => ?_)
    focus
      obtain ⟨u, w3, hrun, hres⟩ := ap_run (P := Try.prog) 33 33 54 ip _ 3 24 undP HIP.out HZ1.out HZ2.out HZ3.out rfl H2b.out (fun _ => Iff.rfl) HNS.out rfl (fun u hu => pcs_one [(t, n)] u (by simpa [pcs, pc] using hu)) (by have := HL.out; omega) (by omega) hc hd
      exact st_ap (.tmp 52) (.tmp 57) rfl rfl rfl hrun hres
    simp only [Act.put, List.setIfInBounds_toArray, List.set_cons_zero, List.set_cons_succ]
    refine hK'.out _ _ _ ?_
    clear hK' K'
    refine wt_nil ?_
    rintro w3 ⟨⟨hc3, _⟩, _⟩ ⟨w2, hb2, hrow3, ho3⟩
    obtain ⟨g3, o3, c3, rfl, hj1, hj2, hj3⟩ := hrow3.ad (by omega)
    clear hj1 hj2 hj3
    have q0 := hc3.get 0 rfl
    have j3 := cellAt (o := 3) q0 rfl
    have f3 := freeAt 3 q0
    have hAp := SlideW.appended HF.out q0 H2b.out H3b.out (only_lt H1b.out) hb2 hrow3 ho3
    have H4 := Lib.hid hAp.1
    have H5 := Lib.hid hAp.2.1
    have H6 := Lib.hid ((Only.of_below HB1.out).trans hAp.2.2)
    have H7 := Lib.hid (setCell_get (o := 3) (u := .slice (some ⟨g3, o3, none⟩) (P.length + 1) c3) q0)
    have HZ9 := Lib.hid HB1.out.size
    clear hrow3 ho3 hc3 q0 hb2 hAp
    try simp only [List.drop_succ_cons, List.drop_zero]
    go_wp2_with fail
    clear j3 f3
    generalize (World.setCell w3 _ _) = W9 at *
    obtain ⟨_, _, _, he9, hj1, hj2, hrd⟩ := H4.out.ad (by simp)
    clear hj1 hj2
    simp only [Value.slice.injEq, Option.some.injEq, Addr.mk.injEq, and_true] at he9
    obtain ⟨⟨rfl, rfl⟩, hj1, rfl⟩ := he9
    clear hj1
    have hmp := fun W (hb : Below W9.heap.size W9 W) => mk_push (H5.out.below hb) (t, n) g3 o3 c3 (RPt.below (P := P ++ [(t, n)]) hrd hb) HSn.out.nums (by have := HL.out; omega) (by have := HK9.out; omega)
    obtain ⟨T', rv', f, hTT, hcm2, hat⟩ := (hmp W9 (Below.refl _ _)).at_
    cases hTT
    have CV := Lib.hid (fun W (hb : Below W9.heap.size W9 W) => hat _ W _ (hmp W hb))
    have HCM := Lib.hid hcm2
    have HNS9 : Hid (∀ p ∈ [(s, Obj.cells #[.int .i64 fn, .int .i64 span, .int .i64 t0, .slice (some ⟨g3, o3, none⟩) (P.length + 1) c3, .iface T rv] 63)], ¬ ((F p.1 ∨ w1.heap.size ≤ p.1) ∧ p.1 ≠ s ∧ (Value.slice (some ⟨g3, o3, none⟩) (P.length + 1) c3).ownBlock ≠ some p.1)) := Lib.hid (fun p hp h => by
      simp only [List.mem_cons, List.not_mem_nil, or_false] at hp
      subst hp; exact h.2.1 rfl)
    have HFC9 : Hid (FC W9 (fun k => (F k ∨ w1.heap.size ≤ k) ∧ k ≠ s ∧ (Value.slice (some ⟨g3, o3, none⟩) (P.length + 1) c3).ownBlock ≠ some k) [(s, Obj.cells #[.int .i64 fn, .int .i64 span, .int .i64 t0, .slice (some ⟨g3, o3, none⟩) (P.length + 1) c3, .iface T rv] 63)] W9) := Lib.hid ⟨Only.refl _ _, fun p hp => by
      simp only [List.mem_cons, List.not_mem_nil, or_false] at hp
      subst hp; exact H7.out⟩
    clear hrd hmp hat hcm2
    refine wp_region_two 11 [(0, false), (1, false), (2, false), (3, false), (4, false), (5, false), (6, false), (7, false), (8, false), (9, false), (10, true)] [] [] rfl (FC W9 (fun k => (F k ∨ w1.heap.size ≤ k) ∧ k ≠ s ∧ (Value.slice (some ⟨g3, o3, none⟩) (P.length + 1) c3).ownBlock ≠ some k) [(s, Obj.cells #[.int .i64 fn, .int .i64 span, .int .i64 t0, .slice (some ⟨g3, o3, none⟩) (P.length + 1) c3, .iface T rv] 63)]) (D0 W9) (by kernel_rfl) (by kernel_rfl) FC.stab (D0.stab W9) (FC.stab _ _ HFC9.out (Below.refl _ _).drew) (Below.refl _ _).drew ?_
    repeat (first | (refine wt_q rfl rfl ?_; apply Exists.intro; refine ⟨fun w' hw' => ?_, fun K hK => ?_⟩; (focus ((have q0 := hw'.get 0 rfl; have j3 := cellAt (o := 3) q0 rfl; have j4 := cellAt (o := 4) q0 rfl; clear q0); go_simp; first | exact quiet_value | fail)); simp only [Act.put, List.setIfInBounds_toArray, List.set_cons_zero, List.set_cons_succ]; refine hK.out _ ?_; clear hK K) | (refine wt_skip rfl rfl (fun K hK => ?_); simp only [Act.put, List.setIfInBounds_toArray, List.set_cons_zero, List.set_cons_succ]; refine hK.out _ ?_; clear hK K))
    refine wt_step rfl (fun _ => Triv) (fun _ W => MkW W (fun k => ((F k ∨ w1.heap.size ≤ k) ∧ k ≠ s ∧ (Value.slice (some ⟨g3, o3, none⟩) (P.length + 1) c3).ownBlock ≠ some k) ∨ W9.heap.size ≤ k) fn (.iface T rv) (P ++ [(t, n)]) (K + 1)) (fun _ _ _ _ _ => triv _) (fun _ _ _ h hb => h.below hb) rfl rfl (fun w' hc hd => st_inv (.tmp 70) (.tmp 68) rfl rfl rfl HCM.out ((CV.out w' hd).mono fun e w'' h => ⟨_, h.1, FC.step HNS9.out _ _ hc h.2.2, triv _, h.2.1.weak (fun k _ hk => hk.elim .inl (fun hk => .inr (Nat.le_trans (Below.size hd) hk)))⟩)) (fun K' hK' v => ?_)
    simp only [Act.put, List.setIfInBounds_toArray, List.set_cons_zero, List.set_cons_succ]
    refine hK'.out _ _ _ ?_
    clear hK' K'
    refine wt_nil ?_
    rintro w4 ⟨hc4, _⟩ hm4
    have hsz9 := H6.out.size
    have hsz1 := HZ9.out
    have hslt := HSL.out
    have hvlt := H4.out.lt
    have HSW : Hid (SlideW w4 (fun k => F k ∨ w.heap.size ≤ k) s fn span t0 (P ++ [(t, n)]) (K + 1)) := Lib.hid ⟨.inl HF.out, .slice (some ⟨g3, o3, none⟩) (P.length + 1) c3, .iface T rv, hc4.get 0 rfl,
      (H4.out.keep' hc4.only (fun k hk e => e.2.2 hk)).weak (fun k _ hk => ⟨hk.1.elim .inl (fun h => .inr (by omega)), hk.2⟩),
      hm4.weak (fun k _ hk => by
        rcases hk with hk | hk
        · exact ⟨hk.1.elim .inl (fun h => .inr (by omega)), hk.2⟩
        · exact ⟨.inr (by omega), by omega, fun e => by have := (hvlt k e).2; omega⟩)⟩
    have HO4 := Lib.hid (H6.out.then hc4.only (fun k hk h => h.1.elim id (fun h => by omega)))
    clear hc4 hm4 hsz9 hsz1 hslt hvlt
    have CT := Lib.hid (to_any HSW.out HSn.out t (by omega) ha2 hs1 hs2 (by have := HK9.out; omega))
    try simp only [List.drop_succ_cons, List.drop_nil]
    go_wp2_with fail
    refine CT.out.mono ?_
    rintro e w5 ⟨rfl, g1, g2⟩
    have G1 := Lib.hid g1
    have G2 := Lib.hid g2
    clear g1 g2
    go_wp2_with fail
    go_ret
    exact ⟨rfl, G1.out, HO4.out.then G2.out (fun k hk h => h.elim id (fun h => by omega))⟩
  · have HLM := Lib.hid hlm
    have HL2 := Lib.hid HL.out
    generalize hN : P.length = N at *
    have HN := Lib.hid hN
    clear hN
    have hl1 : (0 : Int) < (N : Int) := by omega
    have hl2 : 0 < N := by omega
    have hl3 : decide (0 < N) = true := by simp; omega
    have hwr : IntKind.i64.wrap ((N : Int) - 1) = (m : Int) := by have := HL2.out; rw [IntKind.wrap_i64]; omega
    have hix : (m : Int) < (N : Int) := by omega
    clear hlm HL2
    have HPt := Lib.hid hp
    have HG := Lib.hid hg
    obtain ⟨pt, pn⟩ := p
    simp only at hup
    have hnt : ¬ t ≤ pt := by omega
    clear hp hg
    refine wp_region_here 23 [(0, false), (1, false), (2, false), (3, false), (4, false), (5, false), (6, false), (7, false), (8, false), (9, false), (10, false), (11, false), (12, false), (13, false), (14, false), (15, false), (16, false), (17, false), (18, false), (19, false), (20, false), (21, false), (22, false)] (fun _ => .cells #[] 0) (by kernel_rfl) (by kernel_rfl) ?_
    repeat (first | (refine wpP_q rfl rfl rfl ?_; apply Exists.intro; refine ⟨fun w' hw' => ?_, fun K hK => ?_⟩; (focus ((have q0 := keepB H1.out hw'; have j3 := cellAt (o := 3) q0 rfl; have qp := HPt.out.below HG.out hw'; unfold PtAt at qp; obtain ⟨p0, p1, p2⟩ := qp; clear q0); go_simp; first | exact quiet_value | fail)); simp only [Act.put, List.setIfInBounds_toArray, List.set_cons_zero, List.set_cons_succ]; refine hK.out _ ?_; clear hK K) | (refine wpP_skip rfl rfl rfl (fun K hK => ?_); simp only [Act.put, List.setIfInBounds_toArray, List.set_cons_zero, List.set_cons_succ]; refine hK.out _ ?_; clear hK K))
    refine wpP_nil ?_
    intro w1 hb1
    try simp only [List.drop_succ_cons, List.drop_zero]
    have HB1 := Lib.hid hb1
    clear hb1 hl1 hl2 hl3 hwr hix hnt hup HPt HG HLM
    obtain rfl := HN.out
    go_wp2_with fail
    generalize (some ⟨g, o, none⟩ : Option Addr) = A at *
    obtain ⟨ip, hip, hz1, hz2, hz3⟩ := info_parts infoP
    have HIP := Lib.hid hip
    have HZ1 := Lib.hid hz1
    have HZ2 := Lib.hid hz2
    have HZ3 := Lib.hid hz3
    clear hip hz1 hz2 hz3
    have H1b := Lib.hid (keepB H1.out HB1.out)
    have H2b := Lib.hid (H2.out.below HB1.out)
    have H3b := Lib.hid (H3.out.below HB1.out)
    have hne : ¬ (Value.slice A P.length c).ownBlock = some s := fun e => (H2.out.lt s e).1.2 rfl
    have HNS : Hid (∀ p ∈ [(s, Obj.cells #[.int .i64 fn, .int .i64 span, .int .i64 t0, .slice A P.length c, .iface T rv] 63)], ¬ (Value.slice A P.length c).ownBlock = some p.1) := Lib.hid (fun p hp h => by
      simp only [List.mem_cons, List.not_mem_nil, or_false] at hp
      subst hp; exact hne h)
    have HFC : Hid (FC w1 (fun k => (Value.slice A P.length c).ownBlock = some k) [(s, Obj.cells #[.int .i64 fn, .int .i64 span, .int .i64 t0, .slice A P.length c, .iface T rv] 63)] w1) := Lib.hid ⟨Only.refl _ _, fun p hp => by
      simp only [List.mem_cons, List.not_mem_nil, or_false] at hp
      subst hp; exact H1b.out⟩
    clear hne
    refine wp_region_two 11 [(0, false), (1, false), (2, false), (3, false), (4, false), (5, false), (6, false), (7, false), (8, false), (9, true), (10, true)] [] [] rfl (FC w1 (fun k => (Value.slice A P.length c).ownBlock = some k) [(s, Obj.cells #[.int .i64 fn, .int .i64 span, .int .i64 t0, .slice A P.length c, .iface T rv] 63)]) (D0 w1) (by kernel_rfl) (by kernel_rfl) FC.stab (D0.stab w1) (FC.stab _ _ HFC.out (Below.refl _ _).drew) (Below.refl _ _).drew ?_
    repeat (first | (refine wt_q rfl rfl ?_; apply Exists.intro; refine ⟨fun w' hw' => ?_, fun K hK => ?_⟩; (focus ((have q0 := hw'.get 0 rfl; have j3 := cellAt (o := 3) q0 rfl; clear q0); go_simp; first | exact quiet_value | with_reducible exact quiet_enter (CO.out _))); simp only [Act.put, List.setIfInBounds_toArray, List.set_cons_zero, List.set_cons_succ]; refine hK.out _ ?_; clear hK K) | (refine wt_skip rfl rfl (fun K hK => ?_); simp only [Act.put, List.setIfInBounds_toArray, List.set_cons_zero, List.set_cons_succ]; refine hK.out _ ?_; clear hK K))
    refine wt_bs 54 #[.int .i64 t, .int .i64 n, .bool false] rfl rfl rfl (fun w' hc hd => ?_) (fun K' hK' v => ?_)
    focus
      have HCd := Lib.hid (And.intro hc hd)
      clear hc hd
      go_simp
      exact bs_res HCd.out.1 HCd.out.2 rfl
    simp only [Act.put, List.setIfInBounds_toArray, List.set_cons_zero, List.set_cons_succ]
    refine hK'.out _ _ _ ?_
    clear hK' K'
    refine wt_ap 3 (P.length + 1) (pcs P ++ pc (t, n)) rfl rfl rfl (fun w' hc hd => ?_) (fun K' hK' v' => ?_)
    focus
      obtain ⟨u, w3, hrun, hres⟩ := ap_run (P := Try.prog) 33 33 54 ip _ 3 24 undP HIP.out HZ1.out HZ2.out HZ3.out rfl H2b.out (fun _ => Iff.rfl) HNS.out rfl (fun u hu => pcs_one [(t, n)] u (by simpa [pcs, pc] using hu)) (by have := HL.out; omega) (by omega) hc hd
      exact st_ap (.tmp 52) (.tmp 57) rfl rfl rfl hrun hres
    simp only [Act.put, List.setIfInBounds_toArray, List.set_cons_zero, List.set_cons_succ]
    refine hK'.out _ _ _ ?_
    clear hK' K'
    refine wt_nil ?_
    rintro w3 ⟨⟨hc3, _⟩, _⟩ ⟨w2, hb2, hrow3, ho3⟩
    obtain ⟨g3, o3, c3, rfl, hj1, hj2, hj3⟩ := hrow3.ad (by omega)
    clear hj1 hj2 hj3
    have q0 := hc3.get 0 rfl
    have j3 := cellAt (o := 3) q0 rfl
    have f3 := freeAt 3 q0
    have hAp := SlideW.appended HF.out q0 H2b.out H3b.out (only_lt H1b.out) hb2 hrow3 ho3
    have H4 := Lib.hid hAp.1
    have H5 := Lib.hid hAp.2.1
    have H6 := Lib.hid ((Only.of_below HB1.out).trans hAp.2.2)
    have H7 := Lib.hid (setCell_get (o := 3) (u := .slice (some ⟨g3, o3, none⟩) (P.length + 1) c3) q0)
    have HZ9 := Lib.hid HB1.out.size
    clear hrow3 ho3 hc3 q0 hb2 hAp
    try simp only [List.drop_succ_cons, List.drop_zero]
    go_wp2_with fail
    clear j3 f3
    generalize (World.setCell w3 _ _) = W9 at *
    obtain ⟨_, _, _, he9, hj1, hj2, hrd⟩ := H4.out.ad (by simp)
    clear hj1 hj2
    simp only [Value.slice.injEq, Option.some.injEq, Addr.mk.injEq, and_true] at he9
    obtain ⟨⟨rfl, rfl⟩, hj1, rfl⟩ := he9
    clear hj1
    have hmp := fun W (hb : Below W9.heap.size W9 W) => mk_push (H5.out.below hb) (t, n) g3 o3 c3 (RPt.below (P := P ++ [(t, n)]) hrd hb) HSn.out.nums (by have := HL.out; omega) (by have := HK9.out; omega)
    obtain ⟨T', rv', f, hTT, hcm2, hat⟩ := (hmp W9 (Below.refl _ _)).at_
    cases hTT
    have CV := Lib.hid (fun W (hb : Below W9.heap.size W9 W) => hat _ W _ (hmp W hb))
    have HCM := Lib.hid hcm2
    have HNS9 : Hid (∀ p ∈ [(s, Obj.cells #[.int .i64 fn, .int .i64 span, .int .i64 t0, .slice (some ⟨g3, o3, none⟩) (P.length + 1) c3, .iface T rv] 63)], ¬ ((F p.1 ∨ w1.heap.size ≤ p.1) ∧ p.1 ≠ s ∧ (Value.slice (some ⟨g3, o3, none⟩) (P.length + 1) c3).ownBlock ≠ some p.1)) := Lib.hid (fun p hp h => by
      simp only [List.mem_cons, List.not_mem_nil, or_false] at hp
      subst hp; exact h.2.1 rfl)
    have HFC9 : Hid (FC W9 (fun k => (F k ∨ w1.heap.size ≤ k) ∧ k ≠ s ∧ (Value.slice (some ⟨g3, o3, none⟩) (P.length + 1) c3).ownBlock ≠ some k) [(s, Obj.cells #[.int .i64 fn, .int .i64 span, .int .i64 t0, .slice (some ⟨g3, o3, none⟩) (P.length + 1) c3, .iface T rv] 63)] W9) := Lib.hid ⟨Only.refl _ _, fun p hp => by
      simp only [List.mem_cons, List.not_mem_nil, or_false] at hp
      subst hp; exact H7.out⟩
    clear hrd hmp hat hcm2
    refine wp_region_two 11 [(0, false), (1, false), (2, false), (3, false), (4, false), (5, false), (6, false), (7, false), (8, false), (9, false), (10, true)] [] [] rfl (FC W9 (fun k => (F k ∨ w1.heap.size ≤ k) ∧ k ≠ s ∧ (Value.slice (some ⟨g3, o3, none⟩) (P.length + 1) c3).ownBlock ≠ some k) [(s, Obj.cells #[.int .i64 fn, .int .i64 span, .int .i64 t0, .slice (some ⟨g3, o3, none⟩) (P.length + 1) c3, .iface T rv] 63)]) (D0 W9) (by kernel_rfl) (by kernel_rfl) FC.stab (D0.stab W9) (FC.stab _ _ HFC9.out (Below.refl _ _).drew) (Below.refl _ _).drew ?_
    repeat (first | (refine wt_q rfl rfl ?_; apply Exists.intro; refine ⟨fun w' hw' => ?_, fun K hK => ?_⟩; (focus ((have q0 := hw'.get 0 rfl; have j3 := cellAt (o := 3) q0 rfl; have j4 := cellAt (o := 4) q0 rfl; clear q0); go_simp; first | exact quiet_value | fail)); simp only [Act.put, List.setIfInBounds_toArray, List.set_cons_zero, List.set_cons_succ]; refine hK.out _ ?_; clear hK K) | (refine wt_skip rfl rfl (fun K hK => ?_); simp only [Act.put, List.setIfInBounds_toArray, List.set_cons_zero, List.set_cons_succ]; refine hK.out _ ?_; clear hK K))
    refine wt_step rfl (fun _ => Triv) (fun _ W => MkW W (fun k => ((F k ∨ w1.heap.size ≤ k) ∧ k ≠ s ∧ (Value.slice (some ⟨g3, o3, none⟩) (P.length + 1) c3).ownBlock ≠ some k) ∨ W9.heap.size ≤ k) fn (.iface T rv) (P ++ [(t, n)]) (K + 1)) (fun _ _ _ _ _ => triv _) (fun _ _ _ h hb => h.below hb) rfl rfl (fun w' hc hd => st_inv (.tmp 70) (.tmp 68) rfl rfl rfl HCM.out ((CV.out w' hd).mono fun e w'' h => ⟨_, h.1, FC.step HNS9.out _ _ hc h.2.2, triv _, h.2.1.weak (fun k _ hk => hk.elim .inl (fun hk => .inr (Nat.le_trans (Below.size hd) hk)))⟩)) (fun K' hK' v => ?_)
    simp only [Act.put, List.setIfInBounds_toArray, List.set_cons_zero, List.set_cons_succ]
    refine hK'.out _ _ _ ?_
    clear hK' K'
    refine wt_nil ?_
    rintro w4 ⟨hc4, _⟩ hm4
    have hsz9 := H6.out.size
    have hsz1 := HZ9.out
    have hslt := HSL.out
    have hvlt := H4.out.lt
    have HSW : Hid (SlideW w4 (fun k => F k ∨ w.heap.size ≤ k) s fn span t0 (P ++ [(t, n)]) (K + 1)) := Lib.hid ⟨.inl HF.out, .slice (some ⟨g3, o3, none⟩) (P.length + 1) c3, .iface T rv, hc4.get 0 rfl,
      (H4.out.keep' hc4.only (fun k hk e => e.2.2 hk)).weak (fun k _ hk => ⟨hk.1.elim .inl (fun h => .inr (by omega)), hk.2⟩),
      hm4.weak (fun k _ hk => by
        rcases hk with hk | hk
        · exact ⟨hk.1.elim .inl (fun h => .inr (by omega)), hk.2⟩
        · exact ⟨.inr (by omega), by omega, fun e => by have := (hvlt k e).2; omega⟩)⟩
    have HO4 := Lib.hid (H6.out.then hc4.only (fun k hk h => h.1.elim id (fun h => by omega)))
    clear hc4 hm4 hsz9 hsz1 hslt hvlt
    have CT := Lib.hid (to_any HSW.out HSn.out t (by omega) ha2 hs1 hs2 (by have := HK9.out; omega))
    try simp only [List.drop_succ_cons, List.drop_nil]
    go_wp2_with fail
    refine CT.out.mono ?_
    rintro e w5 ⟨rfl, g1, g2⟩
    have G1 := Lib.hid g1
    have G2 := Lib.hid g2
    clear g1 g2
    go_wp2_with fail
    go_ret
    exact ⟨rfl, G1.out, HO4.out.then G2.out (fun k hk h => h.elim id (fun h => by omega))⟩
theorem push_made {w : World} {F : Nat → Prop} {s : Nat} {fn span : Int} {σ : Slst} (h : SlideW w F s fn span σ.time σ.pts σ.k) (hf : Fit σ) (t n : Int) (hn : In64 n) (hs1 : 1 ≤ span) (hs2 : span ≤ 1073741824) (hl : σ.pts.length ≤ 1099511627774) (hK : σ.k ≤ 1099511627774) :
    Calls Try.prog 11 #[.pointer (some ⟨s, 0, none⟩), .int .i64 t, .int .i64 n] w (MeP F s fn span (stPush span σ t n) w) := by
  by_cases he : pushE σ.time t = 0
  · exact push_yes h hf t n hn he hs1 hs2 hl hK
  · exact push_no h t n he
end Go.Proofs.Ytbhkgnhgecchcaa
