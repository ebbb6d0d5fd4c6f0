/- The reference's slide: Push. -/
import Derived.Test.YtbhkgnhgecchcaaRsP
import Derived.Test.YtbhkgnhgecchcaaSlR
import Derived.Test.YtbhkgnhgecchcaaRegU
namespace Go.Proofs.Ytbhkgnhgecchcaa
open Go.RowKit
theorem RefsW.appended {w w2 W : World} {F : Nat → Prop} {s : Nat} {fn span time : Int} {P : List Pt} {x : Pt} {lv v' : Value} (hs : F s) (h1 : W.heap[s]? = some (.cells #[.int .i64 fn, .int .i64 span, lv, .int .i64 time] 50 (0, 0)))
    (h2 : RowAt w (fun k => F k ∧ k ≠ s) 54 3 lv P.length (pcs P)) (hsl : s < w.heap.size) (hb : Below w.heap.size w w2)
    (hrow : RowAt W (fun k => lv.ownBlock = some k ∨ k = w2.heap.size) 54 3 v' (P.length + 1) (pcs P ++ pc x)) (ho : Only (fun k => lv.ownBlock = some k) w2 W) :
    RefsW (W.setCell ⟨s, 2, none⟩ v') (fun k => F k ∨ w.heap.size ≤ k) s fn span time (P ++ [x]) ∧ Only F w (W.setCell ⟨s, 2, none⟩ v') := by
  have hset := Only.set W s 2 v'
  have hlt := h2.lt
  have hsz := hb.size
  refine ⟨⟨.inl hs, v', by rw [setCell_get h1]; rfl, ?_⟩, ?_⟩
  · rw [List.length_append, List.length_singleton, pcs_append, show pcs [x] = pc x from by simp [pcs]]
    refine (hrow.weak (G := fun k => (F k ∨ w.heap.size ≤ k) ∧ k ≠ s) (fun k _ hk => ?_)).keep hset (fun k hk _ e => hk.2 e)
    rcases hk with hk | hk
    · exact ⟨.inl (hlt k hk).1.1, (hlt k hk).1.2⟩
    · exact ⟨.inr (by omega), by omega⟩
  · exact ((Only.of_below hb).then ho (fun k _ hk => (hlt k hk).1.1)).then hset (fun k _ hk => hk ▸ hs)
set_option maxHeartbeats 4000000 in
set_option maxRecDepth 100000 in
theorem rpush_b {w : World} {F : Nat → Prop} {B s c0 : Nat} {fn span : Int} {σ : Slst} (h : RsB w B s fn span σ F) (hf : Fine σ c0) (hc0 : c0 ≤ 1099511627774) (t n : Int) (hn : In64 n) (hs : 1 ≤ span ∧ span ≤ 1073741824) (q : Int × Slst) (hq : stPush span σ t n = q) :
    Calls Try.prog 23 #[.pointer (some ⟨s, 0, none⟩), .int .i64 t, .int .i64 n] w (OpR B s fn span F q w) := by
  subst hq
  have HS := Lib.hid h
  have HN : Hid (∃ F', RsB w B s fn span σ F' ∧ ∀ k, F' k → F k ∨ w.heap.size ≤ k) := Lib.hid ⟨F, h, fun k hk => .inl hk⟩
  obtain ⟨hF, lv, h1, h2⟩ := h.sl
  have H1 := Lib.hid h1
  have H2 := Lib.hid h2
  have HF := Lib.hid hF
  clear h hF
  by_cases ha : t < 1
  · rw [stPush_no (x := 2) (by unfold pushE; rw [if_pos (by omega)]) (by omega)]
    clear h1 h2
    go_enter Try.func23, Try.ntmps23
    go_wp2_with fail
    go_ret
    exact ⟨rfl, HN.out, Only.refl _ _⟩
  by_cases hb : 1099511627776 < t
  · rw [stPush_no (x := 2) (by unfold pushE; rw [if_pos (by omega)]) (by omega)]
    clear h1 h2
    go_enter Try.func23, Try.ntmps23
    go_wp2_with fail
    go_ret
    exact ⟨rfl, HN.out, Only.refl _ _⟩
  by_cases hc : t ≤ σ.time
  · rw [stPush_no (x := 8) (by unfold pushE; rw [if_neg (by omega), if_pos hc]) (by omega)]
    clear h1 h2
    have hd0 : decide (t ≤ σ.time) = true := decide_eq_true hc
    go_enter Try.func23, Try.ntmps23
    go_wp2_with fail
    refine wp_region_here 31 [(0, false), (1, false), (2, false), (3, false), (4, false), (5, false), (6, false), (7, false), (8, false), (9, false), (10, false), (11, false), (12, false), (13, false), (14, false), (15, false), (16, false), (17, false), (18, false), (19, false), (20, false), (21, false), (22, false), (23, false), (24, false), (25, false), (26, false), (27, false), (28, false), (29, false), (30, false)] (fun _ => .cells #[] 0) (by kernel_rfl) (by kernel_rfl) ?_
    repeat (first | (refine wpP_q rfl rfl rfl ?_; apply Exists.intro; refine ⟨fun w' hw' => ?_, fun K hK => ?_⟩; (focus ((have q0 := keepB H1.out hw'; have j3 := cellAt (o := 3) q0 rfl; clear q0); go_simp; first | exact quiet_value | fail)); simp only [Act.put, List.setIfInBounds_toArray, List.set_cons_zero, List.set_cons_succ]; refine hK.out _ ?_; clear hK K) | (refine wpP_skip rfl rfl rfl (fun K hK => ?_); simp only [Act.put, List.setIfInBounds_toArray, List.set_cons_zero, List.set_cons_succ]; refine hK.out _ ?_; clear hK K) | (refine wpP_skipu rfl rfl rfl (fun K hK => ?_); simp only [Act.put, List.setIfInBounds_toArray, List.set_cons_zero, List.set_cons_succ]; refine hK.out _ ?_; clear hK K))
    refine wpP_nil ?_
    intro w1 hb1
    try simp only [List.drop_succ_cons, List.drop_nil]
    have HN1 : Hid (∃ F', RsB w1 B s fn span σ F' ∧ ∀ k, F' k → F k ∨ w.heap.size ≤ k) := Lib.hid ⟨F, HS.out.below hb1, fun k hk => .inl hk⟩
    have HB1 := Lib.hid hb1
    clear hb1
    go_wp2_with fail
    go_ret
    exact ⟨rfl, HN1.out, Only.of_below HB1.out⟩
  · have hc1 : ¬ t ≤ σ.time := hc
    have HE : Hid (stPush span σ t n = (0, ⟨t, gone (t - span) (σ.pts ++ [(t, n)]), σ.k + 1⟩)) := Lib.hid (by unfold stPush; rw [if_pos (show pushE σ.time t = 0 by unfold pushE; rw [if_neg (by omega), if_neg hc])])
    rw [HE.out]
    have CO := Lib.hid (fun W => rof_any n W)
    have ha2 : t ≤ 1099511627776 := by omega
    have HSn := Lib.hid (hf.fit.sane.snoc hf.fit.upto (by omega) (by omega) ha2 hn (Nat.le_trans hf.len hc0))
    have hl := Nat.le_trans hf.len hc0
    have hup := hf.fit.upto
    obtain ⟨t0, P, K⟩ := σ
    simp only at hl hup hc hc1 HSn HE H1 H2 h1 h2 ⊢
    have hcase : (P.length = 0 ∧ ∃ A c, lv = .slice A P.length c) ∨ (∃ g o c m, ∃ p : Pt, lv = .slice (some ⟨g, o, none⟩) P.length c ∧ P.length = m + 1 ∧ g < w.heap.size ∧ PtAt w g (o + m * 3) p ∧ p.1 ≤ t0) := by
      rcases List.eq_nil_or_concat P with e | ⟨Q, p, e⟩
      · obtain ⟨A, c, hlv, _⟩ := h2.form
        exact .inl ⟨by rw [e]; rfl, A, c, hlv⟩
      · rw [List.concat_eq_append] at e
        have hlen : P.length = Q.length + 1 := by rw [e]; simp
        obtain ⟨g, o, c, hlv, _, _, hrd⟩ := h2.ad (by omega)
        obtain ⟨hg, hp⟩ := RPt.pt (P := P) hrd (k := Q.length) (by omega)
        have hget : P[Q.length]'(by omega) = p := by subst e; simp
        rw [hget] at hp
        exact .inr ⟨g, o, c, Q.length, p, hlv, hlen, hg, hp, hup p (by rw [e]; simp)⟩
    have HL := Lib.hid hl
    have HLO := Lib.hid HS.out.lo
    have HLE := Lib.hid HS.out.le
    have hd0 : decide (t ≤ t0) = false := decide_eq_false hc1
    clear h1 h2 hl hup HS HN HE hf hc hc0
    go_enter Try.func23, Try.ntmps23
    go_wp2_with fail
    rcases hcase with ⟨hl0, A, c, rfl⟩ | ⟨g, o, c, m, p, rfl, hlm, hg, hp, hup⟩
    · have e0 : ¬ (0 : Int) < (P.length : Int) := by omega
      refine wp_region_here 31 [(0, false), (1, false), (2, false), (3, false), (4, false), (5, false), (6, false), (7, false), (8, false), (9, false), (10, false), (11, false), (12, false), (13, false), (14, false), (15, false), (16, false), (17, false), (18, false), (19, false), (20, false), (21, false), (22, false), (23, false), (24, false), (25, false), (26, false), (27, false), (28, false), (29, false), (30, false)] (fun _ => .cells #[] 0) (by kernel_rfl) (by kernel_rfl) ?_
      repeat (first | (refine wpP_q rfl rfl rfl ?_; apply Exists.intro; refine ⟨fun w' hw' => ?_, fun K hK => ?_⟩; (focus ((have q0 := keepB H1.out hw'; have j2 := cellAt (o := 2) q0 rfl; have j3 := cellAt (o := 3) q0 rfl; clear q0); go_simp; first | exact quiet_value | fail)); simp only [Act.put, List.setIfInBounds_toArray, List.set_cons_zero, List.set_cons_succ]; refine hK.out _ ?_; clear hK K) | (refine wpP_skip rfl rfl rfl (fun K hK => ?_); simp only [Act.put, List.setIfInBounds_toArray, List.set_cons_zero, List.set_cons_succ]; refine hK.out _ ?_; clear hK K) | (refine wpP_skipu rfl rfl rfl (fun K hK => ?_); simp only [Act.put, List.setIfInBounds_toArray, List.set_cons_zero, List.set_cons_succ]; refine hK.out _ ?_; clear hK K))
      refine wpP_nil ?_
      intro w1 hb1
      try simp only [List.drop_succ_cons, List.drop_nil]
      have HB1 := Lib.hid hb1
      clear hb1 e0 hl0 hd0
      go_wp2_with fail
      obtain ⟨ip, hip, hz1, hz2, hz3⟩ := info_parts infoP
      have HIP := Lib.hid hip
      have HZ1 := Lib.hid hz1
      have HZ2 := Lib.hid hz2
      have HZ3 := Lib.hid hz3
      clear hip hz1 hz2 hz3
      have H1b := Lib.hid (keepB H1.out HB1.out)
      have H2b := Lib.hid (H2.out.below HB1.out)
      have hne : ¬ (Value.slice A P.length c).ownBlock = some s := fun e => (H2.out.lt s e).1.2 rfl
      have HNS : Hid (∀ p ∈ [(s, Obj.cells #[.int .i64 fn, .int .i64 span, .slice A P.length c, .int .i64 t0] 50)], ¬ (Value.slice A P.length c).ownBlock = some p.1) := Lib.hid (fun p hp h => by
        simp only [List.mem_cons, List.not_mem_nil, or_false] at hp
        subst hp; exact hne h)
      have HFC : Hid (FC w1 (fun k => (Value.slice A P.length c).ownBlock = some k) [(s, Obj.cells #[.int .i64 fn, .int .i64 span, .slice A P.length c, .int .i64 t0] 50)] w1) := Lib.hid ⟨Only.refl _ _, fun p hp => by
        simp only [List.mem_cons, List.not_mem_nil, or_false] at hp
        subst hp; exact H1b.out⟩
      clear hne
      refine wp_region_two 11 [(0, false), (1, false), (2, false), (3, false), (4, false), (5, false), (6, false), (7, false), (8, false), (9, true), (10, true)] [] [] rfl (FC w1 (fun k => (Value.slice A P.length c).ownBlock = some k) [(s, Obj.cells #[.int .i64 fn, .int .i64 span, .slice A P.length c, .int .i64 t0] 50)]) (D0 w1) (by kernel_rfl) (by kernel_rfl) FC.stab (D0.stab w1) (FC.stab _ _ HFC.out (Below.refl _ _).drew) (Below.refl _ _).drew ?_
      repeat (first | (refine wt_q rfl rfl ?_; apply Exists.intro; refine ⟨fun w' hw' => ?_, fun K hK => ?_⟩; (focus ((have q0 := hw'.get 0 rfl; have j3 := cellAt (o := 2) q0 rfl; clear q0); go_simp; first | exact quiet_value | with_reducible exact quiet_enter (CO.out _))); simp only [Act.put, List.setIfInBounds_toArray, List.set_cons_zero, List.set_cons_succ]; refine hK.out _ ?_; clear hK K) | (refine wt_skip rfl rfl (fun K hK => ?_); simp only [Act.put, List.setIfInBounds_toArray, List.set_cons_zero, List.set_cons_succ]; refine hK.out _ ?_; clear hK K))
      refine wt_bs 54 #[.int .i64 t, .int .i64 n, .bool false] rfl rfl rfl (fun w' hc hd => ?_) (fun K' hK' v => ?_)
      focus
        have HCd := Lib.hid (And.intro hc hd)
        clear hc hd
        go_simp
        exact bs_res HCd.out.1 HCd.out.2 rfl
      simp only [Act.put, List.setIfInBounds_toArray, List.set_cons_zero, List.set_cons_succ]
      refine hK'.out _ _ _ ?_
      clear hK' K'
      refine wt_ap 3 (P.length + 1) (pcs P ++ pc (t, n)) rfl rfl rfl (fun w' hc hd => ?_) (fun K' hK' v' => ?_)
      focus
        obtain ⟨u, w3, hrun, hres⟩ := ap_run (P := Try.prog) 33 33 54 ip _ 3 24 undP HIP.out HZ1.out HZ2.out HZ3.out rfl H2b.out (fun _ => Iff.rfl) HNS.out rfl (fun u hu => pcs_one [(t, n)] u (by simpa [pcs, pc] using hu)) (by have := HL.out; omega) (by omega) hc hd
        exact st_ap (.tmp 48) (.tmp 53) rfl rfl rfl hrun hres
      simp only [Act.put, List.setIfInBounds_toArray, List.set_cons_zero, List.set_cons_succ]
      refine hK'.out _ _ _ ?_
      clear hK' K'
      refine wt_nil ?_
      rintro w3 ⟨⟨hc3, _⟩, _⟩ ⟨w2, hb2, hrow3, ho3⟩
      obtain ⟨g3, o3, c3, rfl, hj1, hj2, hj3⟩ := hrow3.ad (by omega)
      clear hj1 hj2 hj3
      have q0 := hc3.get 0 rfl
      have j3 := cellAt (o := 2) q0 rfl
      have f3 := freeAt 2 q0
      have hAp := RefsW.appended HF.out q0 H2b.out (only_lt H1b.out) hb2 hrow3 ho3
      have H5 := Lib.hid hAp.1
      have H6 := Lib.hid ((Only.of_below HB1.out).trans hAp.2)
      have HZ9 := Lib.hid HB1.out.size
      clear hrow3 ho3 hc3 q0 hb2 hAp
      try simp only [List.drop_succ_cons, List.drop_zero]
      go_wp2_with fail
      clear j3 f3
      generalize (World.setCell w3 _ _) = W9 at *
      have CT := Lib.hid (goes_made H5.out HSn.out t (by omega) ha2 hs.1 hs.2)
      refine CT.out.mono ?_
      rintro e w5 ⟨rfl, g1, g2⟩
      have G1 := Lib.hid (RsB.weakB (w0 := w) (F := F) (σ := ⟨t, gone (t - span) (P ++ [(t, n)]), K + 1⟩) (g1.weak (fun k _ hk => by
        have h1 := HB1.out.size
        have h2 := H6.out.size
        rcases hk with (hk | hk) | hk
        · exact .inl hk
        · exact .inr (Nat.le_trans h1 hk)
        · exact .inr (Nat.le_trans h2 hk))) HLO.out HLE.out)
      have G2 := Lib.hid g2
      clear g1 g2
      go_wp2_with fail
      go_ret
      exact ⟨rfl, G1.out, H6.out.then G2.out (fun k hk h => h.elim id (fun h => by have := HB1.out.size; omega))⟩
    · have HLM := Lib.hid hlm
      have HL2 := Lib.hid HL.out
      generalize hN : P.length = N at *
      have HN := Lib.hid hN
      clear hN
      have hl1 : (0 : Int) < (N : Int) := by omega
      have hl2 : 0 < N := by omega
      have hl3 : decide (0 < N) = true := by simp; omega
      have hwr : IntKind.i64.wrap ((N : Int) - 1) = (m : Int) := by have := HL2.out; rw [IntKind.wrap_i64]; omega
      have hix : (m : Int) < (N : Int) := by omega
      clear hlm HL2
      have HPt := Lib.hid hp
      have HG := Lib.hid hg
      obtain ⟨pt, pn⟩ := p
      simp only at hup
      have hnt : ¬ t ≤ pt := by omega
      clear hp hg
      refine wp_region_here 31 [(0, false), (1, false), (2, false), (3, false), (4, false), (5, false), (6, false), (7, false), (8, false), (9, false), (10, false), (11, false), (12, false), (13, false), (14, false), (15, false), (16, false), (17, false), (18, false), (19, false), (20, false), (21, false), (22, false), (23, false), (24, false), (25, false), (26, false), (27, false), (28, false), (29, false), (30, false)] (fun _ => .cells #[] 0) (by kernel_rfl) (by kernel_rfl) ?_
      repeat (first | (refine wpP_q rfl rfl rfl ?_; apply Exists.intro; refine ⟨fun w' hw' => ?_, fun K hK => ?_⟩; (focus ((have q0 := keepB H1.out hw'; have j2 := cellAt (o := 2) q0 rfl; have j3 := cellAt (o := 3) q0 rfl; have qp := HPt.out.below HG.out hw'; unfold PtAt at qp; obtain ⟨p0, p1, p2⟩ := qp; clear q0); go_simp; first | exact quiet_value | fail)); simp only [Act.put, List.setIfInBounds_toArray, List.set_cons_zero, List.set_cons_succ]; refine hK.out _ ?_; clear hK K) | (refine wpP_skip rfl rfl rfl (fun K hK => ?_); simp only [Act.put, List.setIfInBounds_toArray, List.set_cons_zero, List.set_cons_succ]; refine hK.out _ ?_; clear hK K) | (refine wpP_skipu rfl rfl rfl (fun K hK => ?_); simp only [Act.put, List.setIfInBounds_toArray, List.set_cons_zero, List.set_cons_succ]; refine hK.out _ ?_; clear hK K))
      refine wpP_nil ?_
      intro w1 hb1
      try simp only [List.drop_succ_cons, List.drop_nil]
      have HB1 := Lib.hid hb1
      clear hb1 hl1 hl2 hl3 hwr hix hnt hup HPt HG HLM hd0
      obtain rfl := HN.out
      go_wp2_with fail
      generalize (some ⟨g, o, none⟩ : Option Addr) = A at *
      obtain ⟨ip, hip, hz1, hz2, hz3⟩ := info_parts infoP
      have HIP := Lib.hid hip
      have HZ1 := Lib.hid hz1
      have HZ2 := Lib.hid hz2
      have HZ3 := Lib.hid hz3
      clear hip hz1 hz2 hz3
      have H1b := Lib.hid (keepB H1.out HB1.out)
      have H2b := Lib.hid (H2.out.below HB1.out)
      have hne : ¬ (Value.slice A P.length c).ownBlock = some s := fun e => (H2.out.lt s e).1.2 rfl
      have HNS : Hid (∀ p ∈ [(s, Obj.cells #[.int .i64 fn, .int .i64 span, .slice A P.length c, .int .i64 t0] 50)], ¬ (Value.slice A P.length c).ownBlock = some p.1) := Lib.hid (fun p hp h => by
        simp only [List.mem_cons, List.not_mem_nil, or_false] at hp
        subst hp; exact hne h)
      have HFC : Hid (FC w1 (fun k => (Value.slice A P.length c).ownBlock = some k) [(s, Obj.cells #[.int .i64 fn, .int .i64 span, .slice A P.length c, .int .i64 t0] 50)] w1) := Lib.hid ⟨Only.refl _ _, fun p hp => by
        simp only [List.mem_cons, List.not_mem_nil, or_false] at hp
        subst hp; exact H1b.out⟩
      clear hne
      refine wp_region_two 11 [(0, false), (1, false), (2, false), (3, false), (4, false), (5, false), (6, false), (7, false), (8, false), (9, true), (10, true)] [] [] rfl (FC w1 (fun k => (Value.slice A P.length c).ownBlock = some k) [(s, Obj.cells #[.int .i64 fn, .int .i64 span, .slice A P.length c, .int .i64 t0] 50)]) (D0 w1) (by kernel_rfl) (by kernel_rfl) FC.stab (D0.stab w1) (FC.stab _ _ HFC.out (Below.refl _ _).drew) (Below.refl _ _).drew ?_
      repeat (first | (refine wt_q rfl rfl ?_; apply Exists.intro; refine ⟨fun w' hw' => ?_, fun K hK => ?_⟩; (focus ((have q0 := hw'.get 0 rfl; have j3 := cellAt (o := 2) q0 rfl; clear q0); go_simp; first | exact quiet_value | with_reducible exact quiet_enter (CO.out _))); simp only [Act.put, List.setIfInBounds_toArray, List.set_cons_zero, List.set_cons_succ]; refine hK.out _ ?_; clear hK K) | (refine wt_skip rfl rfl (fun K hK => ?_); simp only [Act.put, List.setIfInBounds_toArray, List.set_cons_zero, List.set_cons_succ]; refine hK.out _ ?_; clear hK K))
      refine wt_bs 54 #[.int .i64 t, .int .i64 n, .bool false] rfl rfl rfl (fun w' hc hd => ?_) (fun K' hK' v => ?_)
      focus
        have HCd := Lib.hid (And.intro hc hd)
        clear hc hd
        go_simp
        exact bs_res HCd.out.1 HCd.out.2 rfl
      simp only [Act.put, List.setIfInBounds_toArray, List.set_cons_zero, List.set_cons_succ]
      refine hK'.out _ _ _ ?_
      clear hK' K'
      refine wt_ap 3 (P.length + 1) (pcs P ++ pc (t, n)) rfl rfl rfl (fun w' hc hd => ?_) (fun K' hK' v' => ?_)
      focus
        obtain ⟨u, w3, hrun, hres⟩ := ap_run (P := Try.prog) 33 33 54 ip _ 3 24 undP HIP.out HZ1.out HZ2.out HZ3.out rfl H2b.out (fun _ => Iff.rfl) HNS.out rfl (fun u hu => pcs_one [(t, n)] u (by simpa [pcs, pc] using hu)) (by have := HL.out; omega) (by omega) hc hd
        exact st_ap (.tmp 48) (.tmp 53) rfl rfl rfl hrun hres
      simp only [Act.put, List.setIfInBounds_toArray, List.set_cons_zero, List.set_cons_succ]
      refine hK'.out _ _ _ ?_
      clear hK' K'
      refine wt_nil ?_
      rintro w3 ⟨⟨hc3, _⟩, _⟩ ⟨w2, hb2, hrow3, ho3⟩
      obtain ⟨g3, o3, c3, rfl, hj1, hj2, hj3⟩ := hrow3.ad (by omega)
      clear hj1 hj2 hj3
      have q0 := hc3.get 0 rfl
      have j3 := cellAt (o := 2) q0 rfl
      have f3 := freeAt 2 q0
      have hAp := RefsW.appended HF.out q0 H2b.out (only_lt H1b.out) hb2 hrow3 ho3
      have H5 := Lib.hid hAp.1
      have H6 := Lib.hid ((Only.of_below HB1.out).trans hAp.2)
      have HZ9 := Lib.hid HB1.out.size
      clear hrow3 ho3 hc3 q0 hb2 hAp
      try simp only [List.drop_succ_cons, List.drop_zero]
      go_wp2_with fail
      clear j3 f3
      generalize (World.setCell w3 _ _) = W9 at *
      have CT := Lib.hid (goes_made H5.out HSn.out t (by omega) ha2 hs.1 hs.2)
      refine CT.out.mono ?_
      rintro e w5 ⟨rfl, g1, g2⟩
      have G1 := Lib.hid (RsB.weakB (w0 := w) (F := F) (σ := ⟨t, gone (t - span) (P ++ [(t, n)]), K + 1⟩) (g1.weak (fun k _ hk => by
        have h1 := HB1.out.size
        have h2 := H6.out.size
        rcases hk with (hk | hk) | hk
        · exact .inl hk
        · exact .inr (Nat.le_trans h1 hk)
        · exact .inr (Nat.le_trans h2 hk))) HLO.out HLE.out)
      have G2 := Lib.hid g2
      clear g1 g2
      go_wp2_with fail
      go_ret
      exact ⟨rfl, G1.out, H6.out.then G2.out (fun k hk h => h.elim id (fun h => by have := HB1.out.size; omega))⟩
end Go.Proofs.Ytbhkgnhgecchcaa
