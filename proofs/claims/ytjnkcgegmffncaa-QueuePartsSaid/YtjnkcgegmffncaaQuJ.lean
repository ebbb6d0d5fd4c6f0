/- queue.Item, walked. -/
import Derived.Test.YtjnkcgegmffncaaQuI
import Derived.Laws.EntriesVeiled
namespace Go.Proofs.Ytjnkcgegmffncaa
open Go.RowKit
set_option maxHeartbeats 8000000 in
set_option maxRecDepth 100000 in
theorem item_any {A : Option Addr} {c nl : Nat} {l : List UInt8} {k t n tm bt : Int} {m : ByteArray} {la ca : Option Addr} {ln lc cn cc : Nat} {L : List Lb} {C : List Cg} {w : World} (hn : l.length = nl) (hp : Rd w A l) (hl : nl ≤ 400000000) (hln : L.length = ln) (h : RdLb w la L) (g : RdCg w ca cn C) (hE : itE (k, m, L, t, n, tm, bt, C.map cgC) = 0) (hs : smI (k, m, L, t, n, tm, bt, C.map cgC)) :
    Calls Try.prog 26 #[.slice A nl c, .agg #[.int .i64 k, .string m, .slice la ln lc, .int .i64 t, .int .i64 n, .int .i64 tm, .int .i64 bt, .slice ca cn cc]] w (FreshB w (l ++ itmB (k, m, L, t, n, tm, bt, C.map cgC))) := by
  have HB := Lib.hid (below_alloc (Below.refl w.heap.size w) (.cells #[.int .i64 k, .string m, .slice la ln lc, .int .i64 t, .int .i64 n, .int .i64 tm, .int .i64 bt, .slice ca cn cc] 38))
  have HX := Lib.hid (newB w (.cells #[.int .i64 k, .string m, .slice la ln lc, .int .i64 t, .int .i64 n, .int .i64 tm, .int .i64 bt, .slice ca cn cc] 38))
  obtain ⟨z, hz⟩ : ∃ z, w.heap.size = z := ⟨_, rfl⟩
  have HZ := Lib.hid hz
  rw [hz] at HX
  have HN := Lib.hid hn
  have HP := Lib.hid hp
  have hkk := itE_kind hE
  simp only at hkk
  rcases hkk with ⟨rfl, hk⟩ | ⟨rfl, hk⟩ | ⟨rfl, hk, hc⟩
  · skip
    obtain ⟨R, hRR⟩ : ∃ R, l ++ itmB (1, m, L, t, n, tm, bt, C.map cgC) = R := ⟨_, rfl⟩
    obtain ⟨l1, hl1⟩ : ∃ x, l ++ numB 1 = x := ⟨_, rfl⟩
    rw [hRR]
    rw [show itmB (1, m, L, t, n, tm, bt, C.map cgC) = numB 1 ++ txtB ⟨(smpB m L t n).toArray⟩ from rfl, ← List.append_assoc, hl1] at hRR
    have HR := Lib.hid hRR
    have HL1 := Lib.hid hl1
    have CP := Lib.hid (fun W (hb : Below w.heap.size w W) (A' : Option Addr) (c' n' : Nat) (h1 : l1.length = n') (h2 : Rd W A' l1) (h3 : n' ≤ 500000000) => putSample_any (c := c') (k := 1) (tm := tm) (bt := bt) (ca := ca) (lc := lc) (cn := cn) (cc := cc) h1 h2 h3 hln (h.below hb) hk hs.1 hs.2.1)
    have d0 := cellAt (o := 0) HX.out rfl
    have hl1n : l1.length ≤ 400000009 := by rw [← hl1, List.length_append]; have := numB_len (n := 1) (by unfold N64; omega); omega
    have HL1n := Lib.hid hl1n
    clear hn hp hln h g hE hs hRR hl1 hk hl1n
    go_enter Try.func26, Try.ntmps26
    go_wp2_with fail
    clear d0
    have HX2 := Lib.hid (keepA HX.out (.cells #[.nilFunc, .func (.func 43) #[] #[], .func (.func 44) #[] #[], .func (.func 45) #[] #[]] 87))
    have HT2 := Lib.hid (newB (w.alloc (.cells #[.int .i64 1, .string m, .slice la ln lc, .int .i64 t, .int .i64 n, .int .i64 tm, .int .i64 bt, .slice ca cn cc] 38)) (.cells #[.nilFunc, .func (.func 43) #[] #[], .func (.func 44) #[] #[], .func (.func 45) #[] #[]] 87))
    have HB2 := Lib.hid (below_alloc HB.out (.cells #[.nilFunc, .func (.func 43) #[] #[], .func (.func 44) #[] #[], .func (.func 45) #[] #[]] 87))
    rw [alloc_size, HZ.out] at HT2
    obtain ⟨w2, hw2⟩ : ∃ w2, (w.alloc (.cells #[.int .i64 1, .string m, .slice la ln lc, .int .i64 t, .int .i64 n, .int .i64 tm, .int .i64 bt, .slice ca cn cc] 38)).alloc (.cells #[.nilFunc, .func (.func 43) #[] #[], .func (.func 44) #[] #[], .func (.func 45) #[] #[]] 87) = w2 := ⟨_, rfl⟩
    rw [hw2] at HX2 HT2 HB2 ⊢
    clear hw2 HX HB
    refine wp_region_fork 12 (.q 0 (.q 1 (.q 2 (.q 3 (.q 4 (.q 5 (.q 6 (.q 7 (.q 9 (.alt 8 (.alt 10 (.q 11 .nil) .stop) .stop)))))))))) (Below w2.heap.size w2) Triv (by kernel_rfl) (by kernel_rfl) (Stab.below _ _ (Nat.le_refl _)) TB.stab ((Below.refl _ _).drew) (triv _) ?_
    repeat (first | (refine wf_q rfl rfl ?_; apply Exists.intro; refine ⟨fun w' hw' => ?_, fun K hK => ?_⟩; (focus ((have hxk := keepB HX2.out hw'; have d0 := cellAt (o := 0) hxk rfl; have d1 := cellAt (o := 1) hxk rfl; have d2 := cellAt (o := 2) hxk rfl; have d3 := cellAt (o := 3) hxk rfl; have d4 := cellAt (o := 4) hxk rfl; have d5 := cellAt (o := 5) hxk rfl; have d6 := cellAt (o := 6) hxk rfl; have d7 := cellAt (o := 7) hxk rfl; have htk := keepB HT2.out hw'; have e1 := cellAt (o := 1) htk rfl; have e2 := cellAt (o := 2) htk rfl; have e3 := cellAt (o := 3) htk rfl; clear hxk htk); go_simp; first | exact quiet_value | fail)); simp only [Act.put, List.setIfInBounds_toArray, List.set_cons_zero, List.set_cons_succ]; refine hK.out _ ?_; clear hK K) | (refine wf_skip rfl rfl (fun K hK => ?_); simp only [Act.put, List.setIfInBounds_toArray, List.set_cons_zero, List.set_cons_succ]; refine hK.out _ ?_; clear hK K) | (refine wf_skipu rfl rfl (fun K hK => ?_); simp only [Act.put, List.setIfInBounds_toArray, List.set_cons_zero, List.set_cons_succ]; refine hK.out _ ?_; clear hK K))
    refine wf_step (RvB w2.heap.size (l1)) (fun _ => Triv) (RvB.stab _ _) (fun _ => TB.stab) rfl rfl (fun w' hc hd => ?_) (fun K hK v => ?_) wf_stop
    focus
      have HC := Lib.hid hc
      clear hc hd
      skip
      go_simp
      refine st_enter ?_
      exact (HL1.out ▸ number_n (x := 1) HN.out (by unfold N64; omega) (HP.out.below (HB2.out.trans (HC.out.mono HB2.out.size))) (by omega)).mono fun e W' h => by
        obtain ⟨u, h1, h2, h3⟩ := h.rv (B := w2.heap.size) (by first | exact HC.out.size | exact HC.out.1.size | exact HC.out.1.1.size)
        exact ⟨u, h1, by first | exact HC.out.trans (h3.mono HC.out.size) | exact ⟨HC.out.1.trans (h3.mono HC.out.1.size), RvB.stab _ _ _ _ _ HC.out.2 h3⟩ | exact ⟨⟨HC.out.1.1.trans (h3.mono HC.out.1.1.size), RvB.stab _ _ _ _ _ HC.out.1.2 h3⟩, RvB.stab _ _ _ _ _ HC.out.2 h3⟩, h2, triv _⟩
    simp only [Act.put, List.setIfInBounds_toArray, List.set_cons_zero, List.set_cons_succ]
    refine hK.out _ _ _ ?_
    clear hK K
    refine wf_step (RvB w2.heap.size (R)) (fun _ => Triv) (RvB.stab _ _) (fun _ => TB.stab) rfl rfl (fun w' hc hd => ?_) (fun K hK v => ?_) wf_stop
    focus
      have HC := Lib.hid hc
      clear hc hd
      obtain ⟨A4, c4, n4, rfl, hn4, ho4⟩ := HC.out.2
      go_simp
      refine st_enter ?_
      exact (HR.out ▸ CP.out _ (HB2.out.trans (HC.out.1.mono HB2.out.size)) _ _ _ hn4 ho4.rd (by have := HL1n.out; omega)).mono fun e W' h => by
        obtain ⟨u, h1, h2, h3⟩ := h.rv (B := w2.heap.size) (by first | exact HC.out.size | exact HC.out.1.size | exact HC.out.1.1.size)
        exact ⟨u, h1, by first | exact HC.out.trans (h3.mono HC.out.size) | exact ⟨HC.out.1.trans (h3.mono HC.out.1.size), RvB.stab _ _ _ _ _ HC.out.2 h3⟩ | exact ⟨⟨HC.out.1.1.trans (h3.mono HC.out.1.1.size), RvB.stab _ _ _ _ _ HC.out.1.2 h3⟩, RvB.stab _ _ _ _ _ HC.out.2 h3⟩, h2, triv _⟩
    simp only [Act.put, List.setIfInBounds_toArray, List.set_cons_zero, List.set_cons_succ]
    refine hK.out _ _ _ ?_
    clear hK K
    repeat (first | (refine wf_q rfl rfl ?_; apply Exists.intro; refine ⟨fun w' hw' => ?_, fun K hK => ?_⟩; (focus ((skip); go_simp; first | exact quiet_value | fail)); simp only [Act.put, List.setIfInBounds_toArray, List.set_cons_zero, List.set_cons_succ]; refine hK.out _ ?_; clear hK K) | (refine wf_skip rfl rfl (fun K hK => ?_); simp only [Act.put, List.setIfInBounds_toArray, List.set_cons_zero, List.set_cons_succ]; refine hK.out _ ?_; clear hK K) | (refine wf_skipu rfl rfl (fun K hK => ?_); simp only [Act.put, List.setIfInBounds_toArray, List.set_cons_zero, List.set_cons_succ]; refine hK.out _ ?_; clear hK K))
    refine wf_nil ?_
    rintro w4 ⟨⟨hb4, _⟩, A5, c5, n5, rfl, hn5, ho5⟩ _
    have HB4 := Lib.hid (HB2.out.trans (hb4.mono HB2.out.size))
    have HO5 := Lib.hid (OwnB.lower ho5 HB2.out.size)
    clear hb4 hn5 ho5
    (try simp only [List.drop_succ_cons]); (try simp only [List.drop_zero]); (try simp only [List.drop_nil])
    go_wp2_with fail
    go_ret
    exact ⟨_, rfl, HO5.out, HB4.out⟩
  · skip
    obtain ⟨R, hRR⟩ : ∃ R, l ++ itmB (2, m, L, t, n, tm, bt, C.map cgC) = R := ⟨_, rfl⟩
    obtain ⟨l1, hl1⟩ : ∃ x, l ++ numB 2 = x := ⟨_, rfl⟩
    rw [hRR]
    rw [show itmB (2, m, L, t, n, tm, bt, C.map cgC) = numB 2 ++ numB tm.toNat from rfl, ← List.append_assoc, hl1] at hRR
    have HR := Lib.hid hRR
    have HL1 := Lib.hid hl1
    have CP := Lib.hid (fun W (hb : Below w.heap.size w W) (A' : Option Addr) (c' n' : Nat) (h1 : l1.length = n') (h2 : Rd W A' l1) (h3 : n' ≤ 500000000) => putPass_any (c := c') (k := 2) (t := t) (n := n) (bt := bt) (m := m) (la := la) (ln := ln) (ca := ca) (lc := lc) (cn := cn) (cc := cc) h1 h2 h3 hk)
    have d0 := cellAt (o := 0) HX.out rfl
    have hl1n : l1.length ≤ 400000009 := by rw [← hl1, List.length_append]; have := numB_len (n := 2) (by unfold N64; omega); omega
    have HL1n := Lib.hid hl1n
    clear hn hp hln h g hE hs hRR hl1 hk hl1n
    go_enter Try.func26, Try.ntmps26
    go_wp2_with fail
    clear d0
    have HX2 := Lib.hid (keepA HX.out (.cells #[.nilFunc, .func (.func 43) #[] #[], .func (.func 44) #[] #[], .func (.func 45) #[] #[]] 87))
    have HT2 := Lib.hid (newB (w.alloc (.cells #[.int .i64 2, .string m, .slice la ln lc, .int .i64 t, .int .i64 n, .int .i64 tm, .int .i64 bt, .slice ca cn cc] 38)) (.cells #[.nilFunc, .func (.func 43) #[] #[], .func (.func 44) #[] #[], .func (.func 45) #[] #[]] 87))
    have HB2 := Lib.hid (below_alloc HB.out (.cells #[.nilFunc, .func (.func 43) #[] #[], .func (.func 44) #[] #[], .func (.func 45) #[] #[]] 87))
    rw [alloc_size, HZ.out] at HT2
    obtain ⟨w2, hw2⟩ : ∃ w2, (w.alloc (.cells #[.int .i64 2, .string m, .slice la ln lc, .int .i64 t, .int .i64 n, .int .i64 tm, .int .i64 bt, .slice ca cn cc] 38)).alloc (.cells #[.nilFunc, .func (.func 43) #[] #[], .func (.func 44) #[] #[], .func (.func 45) #[] #[]] 87) = w2 := ⟨_, rfl⟩
    rw [hw2] at HX2 HT2 HB2 ⊢
    clear hw2 HX HB
    refine wp_region_fork 12 (.q 0 (.q 1 (.q 2 (.q 3 (.q 4 (.q 5 (.q 6 (.q 7 (.q 9 (.alt 8 (.alt 10 (.q 11 .nil) .stop) .stop)))))))))) (Below w2.heap.size w2) Triv (by kernel_rfl) (by kernel_rfl) (Stab.below _ _ (Nat.le_refl _)) TB.stab ((Below.refl _ _).drew) (triv _) ?_
    repeat (first | (refine wf_q rfl rfl ?_; apply Exists.intro; refine ⟨fun w' hw' => ?_, fun K hK => ?_⟩; (focus ((have hxk := keepB HX2.out hw'; have d0 := cellAt (o := 0) hxk rfl; have d1 := cellAt (o := 1) hxk rfl; have d2 := cellAt (o := 2) hxk rfl; have d3 := cellAt (o := 3) hxk rfl; have d4 := cellAt (o := 4) hxk rfl; have d5 := cellAt (o := 5) hxk rfl; have d6 := cellAt (o := 6) hxk rfl; have d7 := cellAt (o := 7) hxk rfl; have htk := keepB HT2.out hw'; have e1 := cellAt (o := 1) htk rfl; have e2 := cellAt (o := 2) htk rfl; have e3 := cellAt (o := 3) htk rfl; clear hxk htk); go_simp; first | exact quiet_value | fail)); simp only [Act.put, List.setIfInBounds_toArray, List.set_cons_zero, List.set_cons_succ]; refine hK.out _ ?_; clear hK K) | (refine wf_skip rfl rfl (fun K hK => ?_); simp only [Act.put, List.setIfInBounds_toArray, List.set_cons_zero, List.set_cons_succ]; refine hK.out _ ?_; clear hK K) | (refine wf_skipu rfl rfl (fun K hK => ?_); simp only [Act.put, List.setIfInBounds_toArray, List.set_cons_zero, List.set_cons_succ]; refine hK.out _ ?_; clear hK K))
    refine wf_step (RvB w2.heap.size (l1)) (fun _ => Triv) (RvB.stab _ _) (fun _ => TB.stab) rfl rfl (fun w' hc hd => ?_) (fun K hK v => ?_) wf_stop
    focus
      have HC := Lib.hid hc
      clear hc hd
      skip
      go_simp
      refine st_enter ?_
      exact (HL1.out ▸ number_n (x := 2) HN.out (by unfold N64; omega) (HP.out.below (HB2.out.trans (HC.out.mono HB2.out.size))) (by omega)).mono fun e W' h => by
        obtain ⟨u, h1, h2, h3⟩ := h.rv (B := w2.heap.size) (by first | exact HC.out.size | exact HC.out.1.size | exact HC.out.1.1.size)
        exact ⟨u, h1, by first | exact HC.out.trans (h3.mono HC.out.size) | exact ⟨HC.out.1.trans (h3.mono HC.out.1.size), RvB.stab _ _ _ _ _ HC.out.2 h3⟩ | exact ⟨⟨HC.out.1.1.trans (h3.mono HC.out.1.1.size), RvB.stab _ _ _ _ _ HC.out.1.2 h3⟩, RvB.stab _ _ _ _ _ HC.out.2 h3⟩, h2, triv _⟩
    simp only [Act.put, List.setIfInBounds_toArray, List.set_cons_zero, List.set_cons_succ]
    refine hK.out _ _ _ ?_
    clear hK K
    refine wf_step (RvB w2.heap.size (R)) (fun _ => Triv) (RvB.stab _ _) (fun _ => TB.stab) rfl rfl (fun w' hc hd => ?_) (fun K hK v => ?_) wf_stop
    focus
      have HC := Lib.hid hc
      clear hc hd
      obtain ⟨A4, c4, n4, rfl, hn4, ho4⟩ := HC.out.2
      go_simp
      refine st_enter ?_
      exact (HR.out ▸ CP.out _ (HB2.out.trans (HC.out.1.mono HB2.out.size)) _ _ _ hn4 ho4.rd (by have := HL1n.out; omega)).mono fun e W' h => by
        obtain ⟨u, h1, h2, h3⟩ := h.rv (B := w2.heap.size) (by first | exact HC.out.size | exact HC.out.1.size | exact HC.out.1.1.size)
        exact ⟨u, h1, by first | exact HC.out.trans (h3.mono HC.out.size) | exact ⟨HC.out.1.trans (h3.mono HC.out.1.size), RvB.stab _ _ _ _ _ HC.out.2 h3⟩ | exact ⟨⟨HC.out.1.1.trans (h3.mono HC.out.1.1.size), RvB.stab _ _ _ _ _ HC.out.1.2 h3⟩, RvB.stab _ _ _ _ _ HC.out.2 h3⟩, h2, triv _⟩
    simp only [Act.put, List.setIfInBounds_toArray, List.set_cons_zero, List.set_cons_succ]
    refine hK.out _ _ _ ?_
    clear hK K
    repeat (first | (refine wf_q rfl rfl ?_; apply Exists.intro; refine ⟨fun w' hw' => ?_, fun K hK => ?_⟩; (focus ((skip); go_simp; first | exact quiet_value | fail)); simp only [Act.put, List.setIfInBounds_toArray, List.set_cons_zero, List.set_cons_succ]; refine hK.out _ ?_; clear hK K) | (refine wf_skip rfl rfl (fun K hK => ?_); simp only [Act.put, List.setIfInBounds_toArray, List.set_cons_zero, List.set_cons_succ]; refine hK.out _ ?_; clear hK K) | (refine wf_skipu rfl rfl (fun K hK => ?_); simp only [Act.put, List.setIfInBounds_toArray, List.set_cons_zero, List.set_cons_succ]; refine hK.out _ ?_; clear hK K))
    refine wf_nil ?_
    rintro w4 ⟨⟨hb4, _⟩, A5, c5, n5, rfl, hn5, ho5⟩ _
    have HB4 := Lib.hid (HB2.out.trans (hb4.mono HB2.out.size))
    have HO5 := Lib.hid (OwnB.lower ho5 HB2.out.size)
    clear hb4 hn5 ho5
    (try simp only [List.drop_succ_cons]); (try simp only [List.drop_zero]); (try simp only [List.drop_nil])
    go_wp2_with fail
    go_ret
    exact ⟨_, rfl, HO5.out, HB4.out⟩
  · skip
    obtain ⟨R, hRR⟩ : ∃ R, l ++ itmB (3, m, L, t, n, tm, bt, C.map cgC) = R := ⟨_, rfl⟩
    obtain ⟨l1, hl1⟩ : ∃ x, l ++ numB 3 = x := ⟨_, rfl⟩
    rw [hRR]
    rw [show itmB (3, m, L, t, n, tm, bt, C.map cgC) = numB 3 ++ batB bt (C.map cgC) from rfl, ← List.append_assoc, hl1] at hRR
    have HR := Lib.hid hRR
    have HL1 := Lib.hid hl1
    have CP := Lib.hid (fun W (hb : Below w.heap.size w W) (A' : Option Addr) (c' n' : Nat) (h1 : l1.length = n') (h2 : Rd W A' l1) (h3 : n' ≤ 500000000) => putBatch_any (c := c') (k := 3) (t := t) (n := n) (tm := tm) (m := m) (la := la) (ln := ln) (lc := lc) (cc := cc) h1 h2 h3 ⟨by omega, hk.2⟩ (g.below hb) (fun x hx => hc _ (List.mem_map_of_mem hx)) (fun x hx => hs.2.2.2 _ (List.mem_map_of_mem hx)) (by have := hs.2.2.1; rw [List.length_map, g.1] at this; exact this))
    have d0 := cellAt (o := 0) HX.out rfl
    have hl1n : l1.length ≤ 400000009 := by rw [← hl1, List.length_append]; have := numB_len (n := 3) (by unfold N64; omega); omega
    have HL1n := Lib.hid hl1n
    clear hn hp hln h g hE hs hRR hl1 hk hl1n
    go_enter Try.func26, Try.ntmps26
    go_wp2_with fail
    clear d0
    have HX2 := Lib.hid (keepA HX.out (.cells #[.nilFunc, .func (.func 43) #[] #[], .func (.func 44) #[] #[], .func (.func 45) #[] #[]] 87))
    have HT2 := Lib.hid (newB (w.alloc (.cells #[.int .i64 3, .string m, .slice la ln lc, .int .i64 t, .int .i64 n, .int .i64 tm, .int .i64 bt, .slice ca cn cc] 38)) (.cells #[.nilFunc, .func (.func 43) #[] #[], .func (.func 44) #[] #[], .func (.func 45) #[] #[]] 87))
    have HB2 := Lib.hid (below_alloc HB.out (.cells #[.nilFunc, .func (.func 43) #[] #[], .func (.func 44) #[] #[], .func (.func 45) #[] #[]] 87))
    rw [alloc_size, HZ.out] at HT2
    obtain ⟨w2, hw2⟩ : ∃ w2, (w.alloc (.cells #[.int .i64 3, .string m, .slice la ln lc, .int .i64 t, .int .i64 n, .int .i64 tm, .int .i64 bt, .slice ca cn cc] 38)).alloc (.cells #[.nilFunc, .func (.func 43) #[] #[], .func (.func 44) #[] #[], .func (.func 45) #[] #[]] 87) = w2 := ⟨_, rfl⟩
    rw [hw2] at HX2 HT2 HB2 ⊢
    clear hw2 HX HB
    refine wp_region_fork 12 (.q 0 (.q 1 (.q 2 (.q 3 (.q 4 (.q 5 (.q 6 (.q 7 (.q 9 (.alt 8 (.alt 10 (.q 11 .nil) .stop) .stop)))))))))) (Below w2.heap.size w2) Triv (by kernel_rfl) (by kernel_rfl) (Stab.below _ _ (Nat.le_refl _)) TB.stab ((Below.refl _ _).drew) (triv _) ?_
    repeat (first | (refine wf_q rfl rfl ?_; apply Exists.intro; refine ⟨fun w' hw' => ?_, fun K hK => ?_⟩; (focus ((have hxk := keepB HX2.out hw'; have d0 := cellAt (o := 0) hxk rfl; have d1 := cellAt (o := 1) hxk rfl; have d2 := cellAt (o := 2) hxk rfl; have d3 := cellAt (o := 3) hxk rfl; have d4 := cellAt (o := 4) hxk rfl; have d5 := cellAt (o := 5) hxk rfl; have d6 := cellAt (o := 6) hxk rfl; have d7 := cellAt (o := 7) hxk rfl; have htk := keepB HT2.out hw'; have e1 := cellAt (o := 1) htk rfl; have e2 := cellAt (o := 2) htk rfl; have e3 := cellAt (o := 3) htk rfl; clear hxk htk); go_simp; first | exact quiet_value | fail)); simp only [Act.put, List.setIfInBounds_toArray, List.set_cons_zero, List.set_cons_succ]; refine hK.out _ ?_; clear hK K) | (refine wf_skip rfl rfl (fun K hK => ?_); simp only [Act.put, List.setIfInBounds_toArray, List.set_cons_zero, List.set_cons_succ]; refine hK.out _ ?_; clear hK K) | (refine wf_skipu rfl rfl (fun K hK => ?_); simp only [Act.put, List.setIfInBounds_toArray, List.set_cons_zero, List.set_cons_succ]; refine hK.out _ ?_; clear hK K))
    refine wf_step (RvB w2.heap.size (l1)) (fun _ => Triv) (RvB.stab _ _) (fun _ => TB.stab) rfl rfl (fun w' hc hd => ?_) (fun K hK v => ?_) wf_stop
    focus
      have HC := Lib.hid hc
      clear hc hd
      skip
      go_simp
      refine st_enter ?_
      exact (HL1.out ▸ number_n (x := 3) HN.out (by unfold N64; omega) (HP.out.below (HB2.out.trans (HC.out.mono HB2.out.size))) (by omega)).mono fun e W' h => by
        obtain ⟨u, h1, h2, h3⟩ := h.rv (B := w2.heap.size) (by first | exact HC.out.size | exact HC.out.1.size | exact HC.out.1.1.size)
        exact ⟨u, h1, by first | exact HC.out.trans (h3.mono HC.out.size) | exact ⟨HC.out.1.trans (h3.mono HC.out.1.size), RvB.stab _ _ _ _ _ HC.out.2 h3⟩ | exact ⟨⟨HC.out.1.1.trans (h3.mono HC.out.1.1.size), RvB.stab _ _ _ _ _ HC.out.1.2 h3⟩, RvB.stab _ _ _ _ _ HC.out.2 h3⟩, h2, triv _⟩
    simp only [Act.put, List.setIfInBounds_toArray, List.set_cons_zero, List.set_cons_succ]
    refine hK.out _ _ _ ?_
    clear hK K
    refine wf_step (RvB w2.heap.size (R)) (fun _ => Triv) (RvB.stab _ _) (fun _ => TB.stab) rfl rfl (fun w' hc hd => ?_) (fun K hK v => ?_) wf_stop
    focus
      have HC := Lib.hid hc
      clear hc hd
      obtain ⟨A4, c4, n4, rfl, hn4, ho4⟩ := HC.out.2
      go_simp
      refine st_enter ?_
      exact (HR.out ▸ CP.out _ (HB2.out.trans (HC.out.1.mono HB2.out.size)) _ _ _ hn4 ho4.rd (by have := HL1n.out; omega)).mono fun e W' h => by
        obtain ⟨u, h1, h2, h3⟩ := h.rv (B := w2.heap.size) (by first | exact HC.out.size | exact HC.out.1.size | exact HC.out.1.1.size)
        exact ⟨u, h1, by first | exact HC.out.trans (h3.mono HC.out.size) | exact ⟨HC.out.1.trans (h3.mono HC.out.1.size), RvB.stab _ _ _ _ _ HC.out.2 h3⟩ | exact ⟨⟨HC.out.1.1.trans (h3.mono HC.out.1.1.size), RvB.stab _ _ _ _ _ HC.out.1.2 h3⟩, RvB.stab _ _ _ _ _ HC.out.2 h3⟩, h2, triv _⟩
    simp only [Act.put, List.setIfInBounds_toArray, List.set_cons_zero, List.set_cons_succ]
    refine hK.out _ _ _ ?_
    clear hK K
    repeat (first | (refine wf_q rfl rfl ?_; apply Exists.intro; refine ⟨fun w' hw' => ?_, fun K hK => ?_⟩; (focus ((skip); go_simp; first | exact quiet_value | fail)); simp only [Act.put, List.setIfInBounds_toArray, List.set_cons_zero, List.set_cons_succ]; refine hK.out _ ?_; clear hK K) | (refine wf_skip rfl rfl (fun K hK => ?_); simp only [Act.put, List.setIfInBounds_toArray, List.set_cons_zero, List.set_cons_succ]; refine hK.out _ ?_; clear hK K) | (refine wf_skipu rfl rfl (fun K hK => ?_); simp only [Act.put, List.setIfInBounds_toArray, List.set_cons_zero, List.set_cons_succ]; refine hK.out _ ?_; clear hK K))
    refine wf_nil ?_
    rintro w4 ⟨⟨hb4, _⟩, A5, c5, n5, rfl, hn5, ho5⟩ _
    have HB4 := Lib.hid (HB2.out.trans (hb4.mono HB2.out.size))
    have HO5 := Lib.hid (OwnB.lower ho5 HB2.out.size)
    clear hb4 hn5 ho5
    (try simp only [List.drop_succ_cons]); (try simp only [List.drop_zero]); (try simp only [List.drop_nil])
    go_wp2_with fail
    go_ret
    exact ⟨_, rfl, HO5.out, HB4.out⟩
end Go.Proofs.Ytjnkcgegmffncaa
