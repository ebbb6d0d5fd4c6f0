/- A queue: Put, walked. -/
import Derived.Test.YtjnkcgegmffncaaQuP
namespace Go.Proofs.Ytjnkcgegmffncaa
open Go.RowKit
def okI (x : It) : Bool := decide (itE (itC x) = 0)
/-- What Put tells and leaves. -/
def putR (N : Nat) (Q : List ItC) (X : List It) : Int × List ItC := if X.all okI = false then (2, Q) else if N < Q.length + X.length then (9, Q) else (0, Q ++ X.map itC)
theorem itE_two (x : ItC) : itE x = 0 ∨ itE x = 2 := by unfold itE; split <;> simp
theorem itC_mk (k t n tm bt : Int) (m : ByteArray) (la ca : Option Addr) (lc cc : Nat) (L : List Lb) (C : List Cg) : itC (k, m, (la, lc, L), t, n, tm, bt, ca, cc, C) = (k, m, L, t, n, tm, bt, C.map cgC) := rfl
theorem goes_comp {A'' : Ob} {w w' w'' : World} {F F' : Nat → Prop} (g2 : ∀ k, F' k → (F k ∨ w.heap.size ≤ k) ∧ k < w'.heap.size) (g3 : Only F w w') (hk : Goes A'' F' w' w'') : Goes A'' F w w'' := by
  obtain ⟨F2, k1, k2, k3⟩ := hk
  refine ⟨F2, k1, fun k hk => ⟨?_, (k2 k hk).2⟩, g3.then k3 (fun i hi hF => ?_)⟩
  · rcases (k2 k hk).1 with h | h
    · exact (g2 k h).1
    · have := g3.size; exact .inr (by omega)
  · exact (g2 i hF).1.resolve_right (by omega)
set_option maxHeartbeats 16000000 in
set_option maxRecDepth 100000 in
theorem qput_any {w : World} {F G : Nat → Prop} {q N n c : Nat} {Q : List ItC} {A : Option Addr} {X : List It} (h : QuO q N Q w F) (hX : RdIts w G A n X) (hG : ∀ k, k < w.heap.size → G k → ¬ F k) (hn : n ≤ 1000000) :
    Calls Try.prog 9 #[qptr q, .slice A n c] w fun e w' => e = .returned (.int .i64 (putR N Q X).1) ∧ Goes (QuO q N (putR N Q X).2) F w w' := by
  have HX := Lib.hid hX
  have H := Lib.hid h
  have CR := Lib.hid (qright_any h)
  obtain ⟨x1, Q1, hR⟩ : ∃ x1 Q1, putR N Q X = (x1, Q1) := ⟨_, _, rfl⟩
  rw [hR]
  have HR := Lib.hid hR
  have HG := Lib.hid hG
  obtain ⟨qn, hqn⟩ : ∃ n, Q.length = n := ⟨_, rfl⟩
  have HQn := Lib.hid hqn
  have HL : Hid (Q.length ≤ N ∧ N ≤ 4096) := Lib.hid (by obtain ⟨r, a, c, h⟩ := h; exact ⟨h.len, h.le⟩)
  clear h hX hR hG hqn
  go_enter Try.func9, Try.ntmps9
  go_wp2_with fail
  refine CR.out.mono ?_
  rintro e w1 ⟨rfl, rfl⟩
  clear CR
  go_wp2_with fail
  go_loopw [15] (fun v wr => ∃ j : Nat, v = .int .i64 (j : Int) ∧ j ≤ n ∧ Hid ((X.take j).all okI = true) ∧ Hid (Below w.heap.size w wr)) (fun v _ => n - (intOf v).toNat)
  case atStart => exact ⟨0, rfl, Nat.zero_le _, Lib.hid rfl, Lib.hid (Below.refl _ _)⟩
  case round =>
    obtain ⟨j, rfl, hj, HT, HB⟩ := hrel
    by_cases h0 : j < n
    · skip
      have hkX : j < X.length := by rw [HX.out.len]; exact h0
      obtain ⟨ad, rfl, _⟩ := HX.out.some_ (by omega)
      obtain ⟨⟨k, m, ⟨la, lc, L⟩, t, nn, tm, bt, ca, cc, C⟩, hx⟩ : ∃ x, X[j] = x := ⟨_, rfl⟩
      have hin := (HX.out.below HB.out).its _ (List.getElem_mem hkX)
      have hsm := HX.out.sm _ (List.getElem_mem hkX)
      rw [hx] at hin hsm
      simp only at hin
      obtain ⟨b1, b2, b3⟩ := it_bd rfl hsm
      obtain ⟨c0, c1, c2, c3, c4, c5, c6, c7⟩ := (HX.out.below HB.out).at_ hkX hx
      obtain ⟨l1, hl1⟩ : ∃ n, L.length = n := ⟨_, rfl⟩
      obtain ⟨l2, hl2⟩ : ∃ n, C.length = n := ⟨_, rfl⟩
      rw [hl1] at c2
      rw [hl2] at c7
      have HT1 : Hid (X.take (j + 1) = X.take j ++ [(k, m, (la, lc, L), t, nn, tm, bt, ca, cc, C)]) := Lib.hid (by rw [← hx]; exact (List.take_append_getElem hkX).symm)
      have hw : IntKind.i64.wrap ((j : Int) + 1) = ((j + 1 : Nat) : Int) := by rw [IntKind.wrap_i64]; omega
      have hkI : (j : Int) < (n : Int) := by omega
      have HA := Lib.hid (below_alloc (Below.refl (wr).heap.size wr) (.cells #[.int .i64 k, .string m, .slice la l1 lc, .int .i64 t, .int .i64 nn, .int .i64 tm, .int .i64 bt, .slice ca l2 cc] 38))
      have HXI := Lib.hid (newB wr (.cells #[.int .i64 k, .string m, .slice la l1 lc, .int .i64 t, .int .i64 nn, .int .i64 tm, .int .i64 bt, .slice ca l2 cc] 38))
      have CC := Lib.hid (checkI_any (k := k) (m := m) (t := t) (n := nn) (tm := tm) (bt := bt) (lc := lc) (cc := cc) hl1 (hin.below HA.out).lab (by have := (hin.below HA.out).chg; rw [hl2] at this; exact this) (by omega) (by omega) b3)
      obtain ⟨s, hs⟩ : ∃ s, itE (k, m, L, t, nn, tm, bt, C.map cgC) = s := ⟨_, rfl⟩
      have hs2 := itE_two (k, m, L, t, nn, tm, bt, C.map cgC)
      rw [hs] at CC hs2
      have hok : okI (k, m, (la, lc, L), t, nn, tm, bt, ca, cc, C) = decide (s = 0) := by unfold okI; rw [itC_mk, hs]
      have HOK := Lib.hid hok
      have HXm : Hid ((k, m, (la, lc, L), t, nn, tm, bt, ca, cc, C) ∈ X) := Lib.hid (by rw [← hx]; exact List.getElem_mem hkX)
      have HS2 := Lib.hid hs2
      have HBA := Lib.hid (HB.out.trans (HA.out.mono HB.out.size))
      clear hkX hx hin hsm b1 b2 b3 hl1 hl2 hs hok hs2
      go_wp2_with fail
      clear c0 c1 c2 c3 c4 c5 c6 c7
      have d0 := cellAt (o := 0) HXI.out rfl
      have d1 := cellAt (o := 1) HXI.out rfl
      have d2 := cellAt (o := 2) HXI.out rfl
      have d3 := cellAt (o := 3) HXI.out rfl
      have d4 := cellAt (o := 4) HXI.out rfl
      have d5 := cellAt (o := 5) HXI.out rfl
      have d6 := cellAt (o := 6) HXI.out rfl
      have d7 := cellAt (o := 7) HXI.out rfl
      refine CC.out.mono ?_
      rintro e w2 ⟨rfl, hb2⟩
      have HB2 := Lib.hid (HBA.out.trans (hb2.mono HBA.out.size))
      clear hb2 d0 d1 d2 d3 d4 d5 d6 d7 HA HXI HBA
      by_cases hs0 : s = 0
      · have hok2 := HOK.out
        rw [decide_eq_true hs0] at hok2
        subst hs0
        have HOK2 := Lib.hid hok2
        clear hok2 HOK HS2
        go_wp2_with fail
        go_roundw
        case rel => exact ⟨j + 1, by go_num, by omega, Lib.hid (by rw [HT1.out, List.all_append, HT.out, List.all_cons, HOK2.out]; rfl), HB2⟩
        case measure => simp [intOf]; omega
      · obtain rfl : s = 2 := HS2.out.resolve_left hs0
        have hbad : X.all okI = false := List.all_eq_false.2 ⟨_, HXm.out, by rw [HOK.out]; simp⟩
        have hr := HR.out
        unfold putR at hr
        rw [if_pos hbad] at hr
        obtain ⟨rfl, rfl⟩ : (2 : Int) = x1 ∧ Q = Q1 := by cases hr; exact ⟨rfl, rfl⟩
        clear hr hbad hs0 HOK HS2 HR
        go_wp2_with fail
        go_ret
        exact ⟨rfl, Goes.below (QuO.obj _ _ _) H.out HB2.out⟩
    · obtain rfl : j = n := by omega
      have hkI : ¬ (j : Int) < (j : Int) := by omega
      have hall : X.all okI = true := by have := HT.out; rwa [List.take_of_length_le (by rw [HX.out.len]; exact Nat.le_refl _)] at this
      have hr := HR.out
      unfold putR at hr
      rw [if_neg (by rw [hall]; simp), HX.out.len] at hr
      obtain ⟨rm, hrm⟩ : ∃ rm, N = Q.length + rm := ⟨N - Q.length, by have := HL.out; omega⟩
      have CRm := Lib.hid (qroom_any ((QuO.obj _ _ _).below H.out HB.out) hrm)
      have HRm := Lib.hid hrm
      clear hall hrm
      have HRr := Lib.hid hr
      clear hr HT HR
      go_wp2_with fail
      refine CRm.out.mono ?_
      rintro e w2 ⟨rfl, hb2⟩
      have HB2 := Lib.hid (HB.out.trans (hb2.mono HB.out.size))
      clear hb2 CRm
      by_cases hbig : rm < j
      · have hbI : (rm : Int) < (j : Int) := by omega
        have hr := HRr.out
        rw [if_pos (by have := HRm.out; omega)] at hr
        obtain ⟨rfl, rfl⟩ : (9 : Int) = x1 ∧ Q = Q1 := by cases hr; exact ⟨rfl, rfl⟩
        clear hr HRr
        go_wp2_with fail
        go_ret
        exact ⟨rfl, Goes.below (QuO.obj _ _ _) H.out HB2.out⟩
      · have hbI : ¬ (rm : Int) < (j : Int) := by omega
        have hbN : decide (rm < j) = false := by simpa using hbig
        have hr := HRr.out
        rw [if_neg (by have := HRm.out; omega)] at hr
        obtain ⟨rfl, rfl⟩ : (0 : Int) = x1 ∧ Q ++ X.map itC = Q1 := by cases hr; exact ⟨rfl, rfl⟩
        have HRj : Hid (j ≤ rm) := Lib.hid (by omega)
        clear hr HRr hbig
        go_wp2_with fail
        go_loopw [32] (fun v wr => ∃ i : Nat, v = .int .i64 (i : Int) ∧ i ≤ j ∧ Hid (Goes (QuO q N (Q ++ (X.take i).map itC)) F w wr)) (fun v _ => j - (intOf v).toNat)
        case atStart => exact ⟨0, rfl, Nat.zero_le _, Lib.hid (by simpa using Goes.below (QuO.obj _ _ _) H.out HB2.out)⟩
        case round =>
          obtain ⟨i, rfl, hi, HQ⟩ := hrel
          obtain ⟨F', ⟨r, a, cc0, hq⟩, hF', hO⟩ := HQ.out
          by_cases h0 : i < j
          · skip
            have HXr := Lib.hid (HX.out.keep hO (fun k hk hkl => HG.out k hkl hk))
            have hkX : i < X.length := by rw [HX.out.len]; exact h0
            obtain ⟨ad, rfl, _⟩ := HX.out.some_ (by omega)
            obtain ⟨⟨k, m, ⟨la, lc, L⟩, t, nn, tm, bt, ca, cc, C⟩, hx⟩ : ∃ x, X[i] = x := ⟨_, rfl⟩
            have hin := (HXr.out).its _ (List.getElem_mem hkX)
            have hsm := HX.out.sm _ (List.getElem_mem hkX)
            rw [hx] at hin hsm
            simp only at hin
            obtain ⟨b1, b2, b3⟩ := it_bd rfl hsm
            obtain ⟨c0, c1, c2, c3, c4, c5, c6, c7⟩ := (HXr.out).at_ hkX hx
            obtain ⟨l1, hl1⟩ : ∃ n, L.length = n := ⟨_, rfl⟩
            obtain ⟨l2, hl2⟩ : ∃ n, C.length = n := ⟨_, rfl⟩
            rw [hl1] at c2
            rw [hl2] at c7
            have HT1 : Hid (X.take (i + 1) = X.take i ++ [(k, m, (la, lc, L), t, nn, tm, bt, ca, cc, C)]) := Lib.hid (by rw [← hx]; exact (List.take_append_getElem hkX).symm)
            have hw : IntKind.i64.wrap ((i : Int) + 1) = ((i + 1 : Nat) : Int) := by rw [IntKind.wrap_i64]; omega
            have hkI : (i : Int) < (j : Int) := by omega
            have HA := Lib.hid (below_alloc (Below.refl (wr).heap.size wr) (.cells #[.int .i64 k, .string m, .slice la l1 lc, .int .i64 t, .int .i64 nn, .int .i64 tm, .int .i64 bt, .slice ca l2 cc] 38))
            have HXI := Lib.hid (newB wr (.cells #[.int .i64 k, .string m, .slice la l1 lc, .int .i64 t, .int .i64 nn, .int .i64 tm, .int .i64 bt, .slice ca l2 cc] 38))
            have CO := Lib.hid (fun W (hb : Below wr.heap.size wr W) => own_any (k := k) (m := m) (t := t) (n := nn) (tm := tm) (bt := bt) (lc := lc) (cc := cc) hl1 (hin.below hb).lab (by have := (hin.below hb).chg; rw [hl2] at this; exact this) (by omega) (by omega) b3)
            obtain ⟨qi, hqi⟩ : ∃ qi, (Q ++ (X.take i).map itC).length = qi := ⟨_, rfl⟩
            have hqi2 : qi = qn + i := by rw [← hqi, List.length_append, List.length_map, List.length_take, HQn.out, HXr.out.len]; omega
            have hqN : qi < N := by have := HRm.out; have := HRj.out; rw [HQn.out] at *; omega
            obtain ⟨ai, hai⟩ : ∃ x, a + qi = x := ⟨_, rfl⟩
            obtain ⟨sl, hsl⟩ : ∃ x, ai % N = x := ⟨_, rfl⟩
            obtain ⟨q1, hq1⟩ : ∃ x, qi + 1 = x := ⟨_, rfl⟩
            have hlt := hq.lt
            have hN := HL.out.2
            have hw1 : IntKind.i64.wrap ((a : Int) + (qi : Int)) = (ai : Int) := by rw [IntKind.wrap_i64]; omega
            have ht : Int.tmod (ai : Int) (N : Int) = (sl : Int) := by rw [← hsl]; rfl
            have hNz : ¬ N = 0 := by omega
            have hsN : sl < N := by rw [← hsl]; exact mod_lt_ (by omega)
            have hsI : (sl : Int) < (N : Int) := by omega
            have hw2 : IntKind.i64.wrap ((qi : Int) + 1) = (q1 : Int) := by rw [IntKind.wrap_i64]; omega
            have hqq : wr.heap[q]? = some (.cells #[.slice (some ⟨r, 0, none⟩) N N, .int .i64 (a : Int), .int .i64 (qi : Int)] 59 (0, 0)) := by have := hq.que; rw [hqi] at this; exact this
            have HQQ := Lib.hid hqq
            have HQC := Lib.hid hq
            have HF' := Lib.hid hF'
            have HO := Lib.hid hO
            have HN := Lib.hid (And.intro hl1 (And.intro hl2 (And.intro hqi (And.intro hai (And.intro hsl hq1)))))
            have HSm := Lib.hid hsm
            have HQlt := Lib.hid hqN
            clear hkX hx hin hsm b1 b2 b3 hl1 hl2 hqi hqi2 hai hsl hq1 hqq hq hF' hO HQ hqN
            go_wp2_with fail
            clear c0 c1 c2 c3 c4 c5 c6 c7
            obtain ⟨w5, hw5⟩ : ∃ w5, wr.alloc (.cells #[.int .i64 k, .string m, .slice la l1 lc, .int .i64 t, .int .i64 nn, .int .i64 tm, .int .i64 bt, .slice ca l2 cc] 38) = w5 := ⟨_, rfl⟩
            rw [hw5] at HA HXI ⊢
            clear hw5
            obtain ⟨x5, hx5⟩ : ∃ x5, wr.heap.size = x5 := ⟨_, rfl⟩
            have HX5 := Lib.hid hx5
            rw [hx5] at HXI ⊢
            clear hx5
            refine wp_region_fork 22 (.q 0 (.q 1 (.q 2 (.q 3 (.q 4 (.q 5 (.q 6 (.q 7 (.q 8 (.q 9 (.q 10 (.q 11 (.q 12 (.q 13 (.q 14 (.q 15 (.q 16 (.q 17 (.q 18 (.q 19 (.alt 20 (.q 21 .nil) .stop))))))))))))))))))))) (Below w5.heap.size w5) Triv (by kernel_rfl) (by kernel_rfl) (Stab.below _ _ (Nat.le_refl _)) Triv.stab ((Below.refl _ _).drew) (triv _) ?_
            repeat (first | (refine wf_q rfl rfl ?_; apply Exists.intro; refine ⟨fun w' hw' => ?_, fun K hK => ?_⟩; (focus ((have hB := HA.out.trans (hw'.mono HA.out.size); have k0 := cellAt (o := 0) (v := .slice (some ⟨r, 0, none⟩) N N) (keepB HQQ.out hB) rfl; have k1 := cellAt (o := 1) (v := .int .i64 (a : Int)) (keepB HQQ.out hB) rfl; have k2 := cellAt (o := 2) (v := .int .i64 (qi : Int)) (keepB HQQ.out hB) rfl; have hxk := keepB HXI.out hw'; have d0 := cellAt (o := 0) hxk rfl; have d1 := cellAt (o := 1) hxk rfl; have d2 := cellAt (o := 2) hxk rfl; have d3 := cellAt (o := 3) hxk rfl; have d4 := cellAt (o := 4) hxk rfl; have d5 := cellAt (o := 5) hxk rfl; have d6 := cellAt (o := 6) hxk rfl; have d7 := cellAt (o := 7) hxk rfl; clear hxk); go_simp; first | exact quiet_value | fail)); simp only [Act.put, List.setIfInBounds_toArray, List.set_cons_zero, List.set_cons_succ]; refine hK.out _ ?_; clear hK K) | (refine wf_skip rfl rfl (fun K hK => ?_); simp only [Act.put, List.setIfInBounds_toArray, List.set_cons_zero, List.set_cons_succ]; refine hK.out _ ?_; clear hK K) | (refine wf_skipu rfl rfl (fun K hK => ?_); simp only [Act.put, List.setIfInBounds_toArray, List.set_cons_zero, List.set_cons_succ]; refine hK.out _ ?_; clear hK K))
            refine wf_step (FrI k m L t nn tm bt C l1 l2 wr) (fun _ => Triv) (FrI.stab _ _ _ _ _ _ _ _ _ _ _) (fun _ => Triv.stab) rfl rfl (fun w' hc hd => ?_) (fun K hK v => ?_) wf_stop
            focus
              have HC := Lib.hid hc
              clear hc hd
              go_simp
              refine st_enter ?_
              exact (CO.out _ (HA.out.trans (HC.out.mono HA.out.size))).mono fun e W' ⟨la', lc', ca', cc', P, h1, h2, h3, h4, h5⟩ => ⟨_, h1, HC.out.trans (h5.mono HC.out.size), ⟨la', lc', ca', cc', P, rfl, h2, h3, h4.weak (fun i _ hi => Nat.le_trans (Nat.le_trans HA.out.size HC.out.size) hi)⟩, triv _⟩
            simp only [Act.put, List.setIfInBounds_toArray, List.set_cons_zero, List.set_cons_succ]
            refine hK.out _ _ _ ?_
            clear hK K
            repeat (first | (refine wf_q rfl rfl ?_; apply Exists.intro; refine ⟨fun w' hw' => ?_, fun K hK => ?_⟩; (focus ((skip); go_simp; first | exact quiet_value | fail)); simp only [Act.put, List.setIfInBounds_toArray, List.set_cons_zero, List.set_cons_succ]; refine hK.out _ ?_; clear hK K) | (refine wf_skip rfl rfl (fun K hK => ?_); simp only [Act.put, List.setIfInBounds_toArray, List.set_cons_zero, List.set_cons_succ]; refine hK.out _ ?_; clear hK K) | (refine wf_skipu rfl rfl (fun K hK => ?_); simp only [Act.put, List.setIfInBounds_toArray, List.set_cons_zero, List.set_cons_succ]; refine hK.out _ ?_; clear hK K))
            refine wf_nil ?_
            rintro w6 ⟨hb6, la', lc', ca', cc', P, rfl, p1, p2, p3⟩ _
            have HB6 := Lib.hid (HA.out.trans (hb6.mono HA.out.size))
            have HQ6 := Lib.hid (keepB HQQ.out HB6.out)
            have HR6 := Lib.hid (keepB HQC.out.ring HB6.out)
            have HP := Lib.hid (And.intro p1 (And.intro p2 p3))
            clear hb6 p1 p2 p3 HXI
            (try simp only [List.drop_succ_cons]); (try simp only [List.drop_zero]); (try simp only [List.drop_nil])
            refine wpL_storeIt rfl _ _ rfl r (sl * 8) k m la' l1 lc' t nn tm bt ca' l2 cc' rfl rfl cc0 _ HR6.out (by rw [HQC.out.size]; exact slot_in hsN) ?_
            intro w7 HR7 HO7
            have HQ7 := Lib.hid (HO7.out.get HQ6.out (show ¬ q = r from HQC.out.ne))
            have k2 := cellAt (o := 2) (v := .int .i64 (qi : Int)) HQ7.out rfl
            have g2 := freeAt 2 HQ7.out
            have HQ8 := Lib.hid (setCell_get (o := 2) (u := .int .i64 (q1 : Int)) HQ7.out)
            have HO8 := Lib.hid (Only.set w7 q 2 (.int .i64 (q1 : Int)))
            have hne := HQC.out.ne
            have hO68 : Only (fun i => F' i ∧ (i = q ∨ i = r) ∨ wr.heap.size ≤ i) wr (w7.setCell ⟨q, 2, none⟩ (.int .i64 (q1 : Int))) :=
              ((Only.of_below HB6.out).trans (HO7.out.mono (fun i _ e => .inl ⟨by rw [e]; exact HQC.out.inr, .inr e⟩))).trans (HO8.out.mono (fun i _ e => .inl ⟨by rw [e]; exact HQC.out.inq, .inl e⟩))
            have hin8 : ItIn (w7.setCell ⟨q, 2, none⟩ (.int .i64 (q1 : Int))) (fun i => wr.heap.size ≤ i) la' L ca' P :=
              HP.out.2.2.keep (HO7.out.mono (fun i _ e => (.inl e : i = r ∨ i = q)) |>.trans (HO8.out.mono (fun i _ e => .inr e))) (fun i hi _ e => by
                have h1 : wr.heap.size ≤ i := hi
                have h2 := only_lt HQC.out.que
                have h3 := only_lt HQC.out.ring
                rcases e with e | e <;> omega)
            have HGo := Lib.hid (goes_comp HF'.out HO.out (HQC.out.put (y := itC (k, m, (la, lc, L), t, nn, tm, bt, ca, cc, C)) (by rw [HN.out.2.2.1]; exact HQlt.out) (by rw [itC_mk, itC_mk, HP.out.2.1]) HSm.out hO68 hin8 HN.out.1 (l2 := l2) HP.out.1 (s := sl) (by rw [HN.out.2.2.1, HN.out.2.2.2.1]; exact HN.out.2.2.2.2.1) (qn := q1) (by rw [HN.out.2.2.1]; exact HN.out.2.2.2.2.2) HQ8.out (HO8.out.get HR7.out (show ¬ r = q from fun e => hne e.symm))))
            clear hO68 hin8 hne
            go_wp2_with fail
            go_roundw
            case rel => exact ⟨i + 1, by go_num, by omega, Lib.hid (by rw [HT1.out, List.map_append, ← List.append_assoc]; exact HGo.out)⟩
            case measure => simp [intOf]; omega
          · obtain rfl : i = j := by omega
            have hkI : ¬ (i : Int) < (i : Int) := by omega
            have hf : X.take i = X := List.take_of_length_le (by rw [HX.out.len]; exact Nat.le_refl _)
            rw [hf] at HQ
            go_wp2_with fail
            go_ret
            exact ⟨rfl, HQ.out⟩
end Go.Proofs.Ytjnkcgegmffncaa
