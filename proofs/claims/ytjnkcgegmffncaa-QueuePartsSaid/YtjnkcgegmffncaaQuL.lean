/- A queue: Bytes. -/
import Derived.Test.YtjnkcgegmffncaaQuK
namespace Go.Proofs.Ytjnkcgegmffncaa
open Go.RowKit
def itsB : List ItC → List UInt8
  | [] => []
  | x :: r => itmB x ++ itsB r
theorem itsB_snoc (L : List ItC) (x : ItC) : itsB (L ++ [x]) = itsB L ++ itmB x := by
  induction L with
  | nil => simp [itsB]
  | cons y r ih => simp only [List.cons_append, itsB, ih, List.append_assoc]
theorem itsB_len : ∀ (Q : List ItC), (∀ x ∈ Q, itE x = 0 ∧ smI x) → (itsB Q).length ≤ 750000 * Q.length
  | [], _ => by simp [itsB]
  | x :: r, h => by
    have h1 := itsB_len r (fun y hy => h y (List.mem_cons_of_mem _ hy))
    have h2 := itmB_len (h x (by simp)).1 (h x (by simp)).2
    simp only [itsB, List.length_append, List.length_cons]; omega
/-- A queue as bytes. -/
def quB (N : Nat) (Q : List ItC) : List UInt8 := numB N ++ numB Q.length ++ itsB Q
theorem qbytes_nil (w : World) : Calls Try.prog 14 #[.pointer none] w fun e w' => e = .returned (.slice none 0 0) ∧ w = w' := by
  go_enter Try.func14, Try.ntmps14
  go_wp2_with fail
  refine (qright_nil _).mono ?_
  rintro e w1 ⟨rfl, rfl⟩
  go_wp2_with fail
  go_ret
  exact ⟨rfl, rfl⟩
set_option maxHeartbeats 8000000 in
set_option maxRecDepth 100000 in
theorem qbytes_any {w : World} {F : Nat → Prop} {q N : Nat} {Q : List ItC} (h : QuO q N Q w F) (hok : ∀ x ∈ Q, itE x = 0) (hl : Q.length ≤ 400) : Calls Try.prog 14 #[qptr q] w (FreshB w (quB N Q)) := by
  obtain ⟨n, hn⟩ : ∃ n, Q.length = n := ⟨_, rfl⟩
  have CR := Lib.hid (qright_any h)
  have CI := Lib.hid (fun W (hb : Below w.heap.size w W) => qitems_any ((QuO.obj _ _ _).below h hb) hn)
  obtain ⟨r, a, cc0, h⟩ := h
  have hqq : w.heap[q]? = some (.cells #[.slice (some ⟨r, 0, none⟩) N N, .int .i64 (a : Int), .int .i64 (n : Int)] 59 (0, 0)) := by have := h.que; rw [hn] at this; exact this
  have HQQ := Lib.hid hqq
  have HN := Lib.hid hn
  have HSm := Lib.hid h.sm
  have HOk := Lib.hid hok
  have hle := h.le
  have hw1 : IntKind.u64.wrap (N : Int) = (N : Int) := by rw [IntKind.wrap_u64]; omega
  have hw2 : IntKind.u64.wrap (n : Int) = (n : Int) := by rw [IntKind.wrap_u64]; omega
  have HT64 : Hid (N64 N) := Lib.hid (by unfold N64; omega)
  have HC64 : Hid (N64 n) := Lib.hid (by unfold N64; omega)
  obtain ⟨p1, hl1⟩ : ∃ x, numB N = x := ⟨_, rfl⟩
  obtain ⟨p2, hl2⟩ : ∃ x, p1 ++ numB n = x := ⟨_, rfl⟩
  have hl1n : p1.length ≤ 9 := by rw [← hl1]; exact numB_len HT64.out
  have hl2n : p2.length ≤ 18 := by rw [← hl2, List.length_append]; have := numB_len HC64.out; omega
  have HL1 := Lib.hid (And.intro hl1 hl1n)
  have HL2 := Lib.hid (And.intro hl2 hl2n)
  have hR : quB N Q = p2 ++ itsB Q := by unfold quB; rw [hn, hl1, hl2]
  obtain ⟨R, hRR⟩ : ∃ R, quB N Q = R := ⟨_, rfl⟩
  rw [hRR]
  rw [hRR] at hR
  have HR := Lib.hid hR
  have hn4 : n ≤ 400 := by omega
  clear h hn hok hl hqq hl1 hl2 hl1n hl2n hR hRR
  go_enter Try.func14, Try.ntmps14
  go_wp2_with fail
  refine CR.out.mono ?_
  rintro e w1 ⟨rfl, rfl⟩
  clear CR
  go_wp2_with fail
  refine wp_region_fork 14 (.q 0 (.q 1 (.q 2 (.q 3 (.q 4 (.q 5 (.q 7 (.q 8 (.q 9 (.q 10 (.q 11 (.alt 6 (.alt 12 (.q 13 .nil) .stop) .stop)))))))))))) (Below w.heap.size w) Triv (by kernel_rfl) (by kernel_rfl) (Stab.below _ _ (Nat.le_refl _)) TB.stab ((Below.refl _ _).drew) (triv _) ?_
  repeat (first | (refine wf_q rfl rfl ?_; apply Exists.intro; refine ⟨fun w' hw' => ?_, fun K hK => ?_⟩; (focus ((have k0 := cellAt (o := 0) (v := .slice (some ⟨r, 0, none⟩) N N) (keepB HQQ.out hw') rfl; have k2 := cellAt (o := 2) (v := .int .i64 (n : Int)) (keepB HQQ.out hw') rfl); go_simp; first | exact quiet_value | fail)); simp only [Act.put, List.setIfInBounds_toArray, List.set_cons_zero, List.set_cons_succ]; refine hK.out _ ?_; clear hK K) | (refine wf_skip rfl rfl (fun K hK => ?_); simp only [Act.put, List.setIfInBounds_toArray, List.set_cons_zero, List.set_cons_succ]; refine hK.out _ ?_; clear hK K) | (refine wf_skipu rfl rfl (fun K hK => ?_); simp only [Act.put, List.setIfInBounds_toArray, List.set_cons_zero, List.set_cons_succ]; refine hK.out _ ?_; clear hK K))
  refine wf_step (RvB w.heap.size (p1)) (fun _ => Triv) (RvB.stab _ _) (fun _ => TB.stab) rfl rfl (fun w' hc hd => ?_) (fun K hK v => ?_) wf_stop
  focus
    have HC := Lib.hid hc
    clear hc hd
    skip
    go_simp
    refine st_enter ?_
    exact (HL1.out.1 ▸ number_n (A := none) (c := 0) (n := 0) (l := []) (x := N) (w := w') rfl HT64.out Rd.nil_ (by omega)).mono fun e W' h => by
      obtain ⟨u, h1, h2, h3⟩ := h.rv (B := w.heap.size) (by first | exact HC.out.size | exact HC.out.1.size | exact HC.out.1.1.size)
      exact ⟨u, h1, by first | exact HC.out.trans (h3.mono HC.out.size) | exact ⟨HC.out.1.trans (h3.mono HC.out.1.size), RvB.stab _ _ _ _ _ HC.out.2 h3⟩ | exact ⟨⟨HC.out.1.1.trans (h3.mono HC.out.1.1.size), RvB.stab _ _ _ _ _ HC.out.1.2 h3⟩, RvB.stab _ _ _ _ _ HC.out.2 h3⟩, h2, triv _⟩
  simp only [Act.put, List.setIfInBounds_toArray, List.set_cons_zero, List.set_cons_succ]
  refine hK.out _ _ _ ?_
  clear hK K
  refine wf_step (RvB w.heap.size (p2)) (fun _ => Triv) (RvB.stab _ _) (fun _ => TB.stab) rfl rfl (fun w' hc hd => ?_) (fun K hK v => ?_) wf_stop
  focus
    have HC := Lib.hid hc
    clear hc hd
    obtain ⟨A4, c4, n4, rfl, hn4', ho4⟩ := HC.out.2
    go_simp
    refine st_enter ?_
    exact (HL2.out.1 ▸ number_n hn4' HC64.out ho4.rd (by have := HL1.out.2; omega)).mono fun e W' h => by
      obtain ⟨u, h1, h2, h3⟩ := h.rv (B := w.heap.size) (by first | exact HC.out.size | exact HC.out.1.size | exact HC.out.1.1.size)
      exact ⟨u, h1, by first | exact HC.out.trans (h3.mono HC.out.size) | exact ⟨HC.out.1.trans (h3.mono HC.out.1.size), RvB.stab _ _ _ _ _ HC.out.2 h3⟩ | exact ⟨⟨HC.out.1.1.trans (h3.mono HC.out.1.1.size), RvB.stab _ _ _ _ _ HC.out.1.2 h3⟩, RvB.stab _ _ _ _ _ HC.out.2 h3⟩, h2, triv _⟩
  simp only [Act.put, List.setIfInBounds_toArray, List.set_cons_zero, List.set_cons_succ]
  refine hK.out _ _ _ ?_
  clear hK K
  repeat (first | (refine wf_q rfl rfl ?_; apply Exists.intro; refine ⟨fun w' hw' => ?_, fun K hK => ?_⟩; (focus ((skip); go_simp; first | exact quiet_value | fail)); simp only [Act.put, List.setIfInBounds_toArray, List.set_cons_zero, List.set_cons_succ]; refine hK.out _ ?_; clear hK K) | (refine wf_skip rfl rfl (fun K hK => ?_); simp only [Act.put, List.setIfInBounds_toArray, List.set_cons_zero, List.set_cons_succ]; refine hK.out _ ?_; clear hK K) | (refine wf_skipu rfl rfl (fun K hK => ?_); simp only [Act.put, List.setIfInBounds_toArray, List.set_cons_zero, List.set_cons_succ]; refine hK.out _ ?_; clear hK K))
  refine wf_nil ?_
  rintro w4 ⟨⟨hb4, _⟩, A5, c5, n5, rfl, hn5, ho5⟩ _
  have HB4 := Lib.hid hb4
  have HO5 := Lib.hid ho5
  clear hb4 hn5 ho5
  (try simp only [List.drop_succ_cons]); (try simp only [List.drop_zero]); (try simp only [List.drop_nil])
  go_wp2_with fail
  refine (CI.out _ HB4.out).mono ?_
  rintro e w5 ⟨IA, ic, X, rfl, hX1, hX2, hb5⟩
  have HX1 := Lib.hid hX1
  have HX := Lib.hid hX2
  have HB5 := Lib.hid (HB4.out.trans (hb5.mono HB4.out.size))
  have HO6 := Lib.hid (HO5.out.below hb5)
  clear hX1 hX2 hb5 CI
  go_wp2_with fail
  go_loopw [3, 25] (fun s v wr => ∃ j : Nat, v = .int .i64 (j : Int) ∧ j ≤ n ∧ Hid (OwnB wr w.heap.size s (p2 ++ itsB (Q.take j))) ∧ Hid (Below w5.heap.size w5 wr)) (fun _ v _ => n - (intOf v).toNat)
  case atStart => exact ⟨0, rfl, Nat.zero_le _, Lib.hid (by simpa [itsB] using HO6.out), Lib.hid (Below.refl _ _)⟩
  clear HO6 HO5
  case round =>
    obtain ⟨j, rfl, hj, HO, HBr⟩ := hrel
    obtain ⟨BA, bc, bn, rfl, hbn, hrd⟩ := HO.out.len_
    by_cases h0 : j < n
    · skip
      have hkX : j < X.length := by rw [HX.out.len]; exact h0
      obtain ⟨ad, rfl, _⟩ := HX.out.some_ (by omega)
      obtain ⟨⟨k, m, ⟨la, lc, L⟩, t, nn, tm, bt, ca, cc, C⟩, hx⟩ : ∃ x, X[j] = x := ⟨_, rfl⟩
      have hin := (HX.out.below HBr.out).its _ (List.getElem_mem hkX)
      have hsm := HX.out.sm _ (List.getElem_mem hkX)
      rw [hx] at hin hsm
      simp only at hin
      obtain ⟨b1, b2, b3⟩ := it_bd rfl hsm
      obtain ⟨c0, c1, c2, c3, c4, c5, c6, c7⟩ := (HX.out.below HBr.out).at_ hkX hx
      obtain ⟨l1, hl1⟩ : ∃ n, L.length = n := ⟨_, rfl⟩
      obtain ⟨l2, hl2⟩ : ∃ n, C.length = n := ⟨_, rfl⟩
      rw [hl1] at c2
      rw [hl2] at c7
      have HT1 : Hid (X.take (j + 1) = X.take j ++ [(k, m, (la, lc, L), t, nn, tm, bt, ca, cc, C)]) := Lib.hid (by rw [← hx]; exact (List.take_append_getElem hkX).symm)
      have hw : IntKind.i64.wrap ((j : Int) + 1) = ((j + 1 : Nat) : Int) := by rw [IntKind.wrap_i64]; omega
      have hkI : (j : Int) < (n : Int) := by omega
      have HA := Lib.hid (below_alloc (Below.refl (wr).heap.size wr) (.cells #[.int .i64 k, .string m, .slice la l1 lc, .int .i64 t, .int .i64 nn, .int .i64 tm, .int .i64 bt, .slice ca l2 cc] 38))
      have HXI := Lib.hid (newB wr (.cells #[.int .i64 k, .string m, .slice la l1 lc, .int .i64 t, .int .i64 nn, .int .i64 tm, .int .i64 bt, .slice ca l2 cc] 38))
      have hjQ : j < Q.length := by rw [HN.out]; exact h0
      have hQj : itC (k, m, (la, lc, L), t, nn, tm, bt, ca, cc, C) = Q[j] := by
        have e : (X.map itC)[j]? = Q[j]? := by rw [HX1.out]
        rw [List.getElem?_map, List.getElem?_eq_getElem hkX, List.getElem?_eq_getElem hjQ, hx] at e
        exact Option.some.inj e
      have hok := HOk.out _ (List.getElem_mem hjQ)
      have hT : itsB (Q.take (j + 1)) = itsB (Q.take j) ++ itmB Q[j] := by rw [← List.take_append_getElem hjQ]; exact itsB_snoc _ _
      have hlen : (itsB (Q.take j)).length ≤ 750000 * 400 := by
        have h1 := itsB_len (Q.take j) (fun x hx => ⟨HOk.out x (List.mem_of_mem_take hx), HSm.out x (List.mem_of_mem_take hx)⟩)
        have h2 : (Q.take j).length ≤ 400 := by rw [List.length_take]; omega
        omega
      rw [← hQj] at hok hT
      rw [itC_mk] at hok hT hsm
      obtain ⟨D, hD⟩ : ∃ D, p2 ++ itsB (Q.take j) = D := ⟨_, rfl⟩
      have hDl : D.length ≤ 300000018 := by rw [← hD, List.length_append]; have := HL2.out.2; omega
      have hT2 : p2 ++ itsB (Q.take (j + 1)) = D ++ itmB (k, m, L, t, nn, tm, bt, C.map cgC) := by rw [hT, ← List.append_assoc, hD]
      rw [hD] at hbn hrd
      have CT := Lib.hid (item_any (c := bc) (k := k) (m := m) (t := t) (n := nn) (tm := tm) (bt := bt) (lc := lc) (cc := cc) (cn := l2) hbn (hrd.below HA.out) (by omega) hl1 (hin.below HA.out).lab (by have := (hin.below HA.out).chg; rw [hl2] at this; exact this) hok hsm)
      have HT2 := Lib.hid hT2
      have HBB := Lib.hid (HBr.out.trans (HA.out.mono HBr.out.size))
      have HBw := Lib.hid (HB5.out.trans (HBB.out.mono HB5.out.size))
      clear hkX hx hin hsm b1 b2 b3 hl1 hl2 hjQ hQj hok hT hlen hD hDl hT2 hbn hrd HO
      go_wp2_with fail
      clear c0 c1 c2 c3 c4 c5 c6 c7
      have d0 := cellAt (o := 0) HXI.out rfl
      have d1 := cellAt (o := 1) HXI.out rfl
      have d2 := cellAt (o := 2) HXI.out rfl
      have d3 := cellAt (o := 3) HXI.out rfl
      have d4 := cellAt (o := 4) HXI.out rfl
      have d5 := cellAt (o := 5) HXI.out rfl
      have d6 := cellAt (o := 6) HXI.out rfl
      have d7 := cellAt (o := 7) HXI.out rfl
      refine CT.out.mono ?_
      rintro e w6 ⟨v, rfl, ho6, hb6⟩
      have HB6 := Lib.hid (HBB.out.trans (hb6.mono HBB.out.size))
      have HO6 : Hid (OwnB w6 w.heap.size v (p2 ++ itsB (Q.take (j + 1)))) := Lib.hid (by rw [HT2.out]; exact ho6.lower HBw.out.size)
      obtain ⟨A6, c6, n6, rfl, _, _⟩ := ho6.len_
      clear ho6 hb6 d0 d1 d2 d3 d4 d5 d6 d7 CT
      go_wp2_with fail
      go_roundw
      case rel => exact ⟨j + 1, by go_num, by omega, HO6, HB6⟩
      case measure => simp [intOf]; omega
    · have hkI : ¬ (j : Int) < (n : Int) := by omega
      have hf : Q.take j = Q := List.take_of_length_le (by rw [HN.out]; omega)
      rw [hf, ← HR.out] at HO
      clear hf hbn hrd
      go_wp2_with fail
      go_ret
      exact ⟨_, rfl, HO.out, HB5.out.trans (HBr.out.mono HB5.out.size)⟩
end Go.Proofs.Ytjnkcgegmffncaa
