/- The reference's slide as bytes. -/
import Derived.Test.YtbhkgnhgecchcaaRsQ
import Derived.Test.YtbhkgnhgecchcaaSlU
import Derived.Test.YtbhkgnhgecchcaaWRef
namespace Go.Proofs.Ytbhkgnhgecchcaa
open Go.RowKit
theorem num_own {base : Nat} {w W : World} {v : Value} {l : List UInt8} {x : Nat} {C : World → Prop} (hx : N64 x) (ho : OwnB W base v l) (hc : Below base w W) (hb : base ≤ W.heap.size) (hl : l.length ≤ 1099511000000) (hC : ∀ W', Below base w W' → C W') :
    Calls Try.prog 38 #[v, .int .u64 x] W (fun e W' => ∃ u, e = .returned u ∧ stepR C (fun _ => Triv) (fun u W => OwnB W base u (l ++ numB x)) u W') :=
  (rnumber_any base v l x hx W ho hb hl).mono fun _ _ ⟨u, he, ho', hB⟩ => ⟨u, he, hC _ (hc.trans hB), triv _, ho'⟩
theorem sgn_own {base : Nat} {w W : World} {v : Value} {l : List UInt8} {x : Int} {C : World → Prop} (hx : In64 x) (ho : OwnB W base v l) (hc : Below base w W) (hb : base ≤ W.heap.size) (hl : l.length ≤ 1099511000000) (hC : ∀ W', Below base w W' → C W') :
    Calls Try.prog 39 #[v, .int .i64 x] W (fun e W' => ∃ u, e = .returned u ∧ stepR C (fun _ => Triv) (fun u W => OwnB W base u (l ++ numB (zz x))) u W') :=
  (rsigned_any base v l x hx W ho hb hl).mono fun _ _ ⟨u, he, ho', hB⟩ => ⟨u, he, hC _ (hc.trans hB), triv _, ho'⟩
set_option maxHeartbeats 4000000 in
set_option maxRecDepth 100000 in
theorem rbytes_made {w : World} {F : Nat → Prop} {s : Nat} {fn span time : Nat} {P : List Pt} (h : RefsW w F s fn span time P) (hP : Sane P) (h1 : fn ≤ 6) (h2 : span ≤ 1073741824) (h3 : time ≤ 1099511627776) (h4 : P.length ≤ 1000000) :
    Calls Try.prog 25 #[.pointer (some ⟨s, 0, none⟩)] w (ReadB w (slB fn span time P)) := by
  obtain ⟨_, lv, g1, g2⟩ := h
  obtain ⟨A, c, rfl, _, _, hr, hn0, had⟩ := g2.form
  have HAd : Hid (0 < P.length → ∃ g o, A = some ⟨g, o, none⟩) := Lib.hid (fun h0 => by
    obtain ⟨g, o, c', he, _⟩ := g2.ad h0
    injection he with he
    exact ⟨g, o, he⟩)
  have H1 := Lib.hid g1
  have HR := Lib.hid (show RPt w A P from hr)
  have HN := Lib.hid h4
  have HP := Lib.hid hP
  have e1 : IntKind.u64.wrap (fn : Int) = (fn : Int) := by rw [IntKind.wrap_u64]; omega
  have e2 : IntKind.u64.wrap (span : Int) = (span : Int) := by rw [IntKind.wrap_u64]; omega
  have e3 : IntKind.u64.wrap (time : Int) = (time : Int) := by rw [IntKind.wrap_u64]; omega
  have e4 : IntKind.u64.wrap (P.length : Int) = (P.length : Int) := by rw [IntKind.wrap_u64]; omega
  have E1 : Hid (N64 fn) := Lib.hid (by unfold N64; omega)
  have E2 : Hid (N64 span) := Lib.hid (by unfold N64; omega)
  have E3 : Hid (N64 time) := Lib.hid (by unfold N64; omega)
  have E4 : Hid (N64 P.length) := Lib.hid (by unfold N64; omega)
  have HLEN : Hid ((slB fn span time P).length ≤ 20000000) := Lib.hid (by
    have n1 := numB_len E1.out
    have n2 := numB_len E2.out
    have n3 := numB_len E3.out
    have n4 := numB_len E4.out
    have n5 := ptsB_len P 0 HP.out.nums (fun p hp => (HP.out.times p hp).2) (Int.le_refl _) (fun p hp => by have := (HP.out.times p hp).1; omega)
    have := HN.out
    simp only [slB, List.length_append, Int.toNat_natCast]; omega)
  have L1 : Hid ((numB fn).length ≤ 9) := Lib.hid (numB_len E1.out)
  obtain ⟨m1, hm1⟩ : ∃ m, numB fn ++ numB span = m := ⟨_, rfl⟩
  obtain ⟨m2, hm2⟩ : ∃ m, m1 ++ numB time = m := ⟨_, rfl⟩
  obtain ⟨m3, hm3⟩ : ∃ m, m2 ++ numB P.length = m := ⟨_, rfl⟩
  have M1 := Lib.hid hm1
  have M2 := Lib.hid hm2
  have M3 := Lib.hid hm3
  have L2 : Hid (m1.length ≤ 18) := Lib.hid (by have := L1.out; have := numB_len E2.out; rw [← M1.out, List.length_append]; omega)
  have L3 : Hid (m2.length ≤ 27) := Lib.hid (by have := L2.out; have := numB_len E3.out; rw [← M2.out, List.length_append]; omega)
  have HM3 : Hid (m3 ++ ptsB 0 P = slB fn span time P) := Lib.hid (by rw [← M3.out, ← M2.out, ← M1.out]; simp [slB])
  clear hm1 hm2 hm3
  clear g1 g2 hr hn0 had hP h1 h2 h3
  go_enter Try.func25, Try.ntmps25
  go_wp2_with fail
  refine wp_region_two 12 [(0, false), (1, false), (2, false), (3, false), (4, false), (6, false), (7, false), (8, false), (9, false), (10, false), (5, true), (11, true)] [] [] rfl (Below w.heap.size w) (fun _ => True) (by kernel_rfl) (by kernel_rfl) (Stab.below _ _ (Nat.le_refl _)) (fun _ _ _ _ => True.intro) ((Below.refl _ _).drew) True.intro ?_
  repeat (first | (refine wt_q rfl rfl ?_; apply Exists.intro; refine ⟨fun w' hw' => ?_, fun K hK => ?_⟩; (focus ((have q0 := keepB H1.out hw'; have j0 := cellAt (o := 0) q0 rfl; have j1 := cellAt (o := 1) q0 rfl; clear q0); go_simp; first | exact quiet_value | fail)); simp only [Act.put, List.setIfInBounds_toArray, List.set_cons_zero, List.set_cons_succ]; refine hK.out _ ?_; clear hK K) | (refine wt_skip rfl rfl (fun K hK => ?_); simp only [Act.put, List.setIfInBounds_toArray, List.set_cons_zero, List.set_cons_succ]; refine hK.out _ ?_; clear hK K))
  refine wt_step rfl (fun _ => Triv) (fun u W => OwnB W w.heap.size u (numB fn)) (fun _ _ _ _ _ => triv _) (fun _ _ _ h hb => h.below hb) rfl rfl (fun w' hc hd => ?_) (fun K hK v => ?_); (focus (have HC := Lib.hid hc; have HDD := Lib.hid hd; clear hc hd; go_simp; refine st_enter ?_; exact by have hh := num_own (C := Below w.heap.size w) (l := []) E1.out OwnB.nil_ HC.out (Below.size HC.out) (by simp) (fun W h => h); exact hh)); simp only [Act.put, List.setIfInBounds_toArray, List.set_cons_zero, List.set_cons_succ]; refine hK.out _ _ _ ?_; clear hK K
  refine wt_step rfl (fun _ => Triv) (fun u W => OwnB W w.heap.size u (m1)) (fun _ _ _ _ _ => triv _) (fun _ _ _ h hb => h.below hb) rfl rfl (fun w' hc hd => ?_) (fun K hK v => ?_); (focus (have HC := Lib.hid hc; have HDD := Lib.hid hd; clear hc hd; go_simp; refine st_enter ?_; exact by have hh := num_own (C := fun W => Below w.heap.size w W ∧ Triv W) E2.out HDD.out HC.out.1 (Below.size HC.out.1) (by have := L1.out; omega) (fun W h => ⟨h, triv _⟩); rw [M1.out] at hh; exact hh)); simp only [Act.put, List.setIfInBounds_toArray, List.set_cons_zero, List.set_cons_succ]; refine hK.out _ _ _ ?_; clear hK K
  refine wt_nil ?_
  rintro w2 ⟨⟨hb2, _⟩, _⟩ ho2
  have HB2 := Lib.hid hb2
  obtain ⟨A2, c2, rfl, _⟩ := ho2.form
  have HO2 := Lib.hid ho2
  clear hb2 ho2
  try simp only [List.drop_succ_cons, List.drop_zero]
  go_wp2_with fail
  refine wp_region_two 14 [(0, false), (1, false), (2, false), (3, false), (4, false), (5, false), (7, false), (8, false), (9, false), (10, false), (11, false), (12, false), (6, true), (13, true)] [] [] rfl (Below w.heap.size w) (fun W => OwnB W w.heap.size (.slice A2 m1.length c2) m1) (by kernel_rfl) (by kernel_rfl) (Stab.below _ _ (Nat.le_refl _)) (fun _ _ h hb => h.below hb) ((HB2.out).drew) HO2.out ?_
  repeat (first | (refine wt_q rfl rfl ?_; apply Exists.intro; refine ⟨fun w' hw' => ?_, fun K hK => ?_⟩; (focus ((have q0 := keepB H1.out hw'; have j2 := cellAt (o := 2) q0 rfl; have j3 := cellAt (o := 3) q0 rfl; clear q0); go_simp; first | exact quiet_value | fail)); simp only [Act.put, List.setIfInBounds_toArray, List.set_cons_zero, List.set_cons_succ]; refine hK.out _ ?_; clear hK K) | (refine wt_skip rfl rfl (fun K hK => ?_); simp only [Act.put, List.setIfInBounds_toArray, List.set_cons_zero, List.set_cons_succ]; refine hK.out _ ?_; clear hK K))
  refine wt_step rfl (fun _ => Triv) (fun u W => OwnB W w.heap.size u (m2)) (fun _ _ _ _ _ => triv _) (fun _ _ _ h hb => h.below hb) rfl rfl (fun w' hc hd => ?_) (fun K hK v => ?_); (focus (have HC := Lib.hid hc; have HDD := Lib.hid hd; clear hc hd; go_simp; refine st_enter ?_; exact by have hh := num_own (C := fun W => Below w.heap.size w W) E3.out HDD.out HC.out (Below.size HC.out) (by have := L2.out; omega) (fun W h => h); rw [M2.out] at hh; exact hh)); simp only [Act.put, List.setIfInBounds_toArray, List.set_cons_zero, List.set_cons_succ]; refine hK.out _ _ _ ?_; clear hK K
  refine wt_step rfl (fun _ => Triv) (fun u W => OwnB W w.heap.size u (m3)) (fun _ _ _ _ _ => triv _) (fun _ _ _ h hb => h.below hb) rfl rfl (fun w' hc hd => ?_) (fun K hK v => ?_); (focus (have HC := Lib.hid hc; have HDD := Lib.hid hd; clear hc hd; go_simp; refine st_enter ?_; exact by have hh := num_own (C := fun W => Below w.heap.size w W ∧ Triv W) E4.out HDD.out HC.out.1 (Below.size HC.out.1) (by have := L3.out; omega) (fun W h => ⟨h, triv _⟩); rw [M3.out] at hh; exact hh)); simp only [Act.put, List.setIfInBounds_toArray, List.set_cons_zero, List.set_cons_succ]; refine hK.out _ _ _ ?_; clear hK K
  refine wt_nil ?_
  rintro w3 ⟨⟨hb3, _⟩, _⟩ ho3
  have HB3 := Lib.hid hb3
  have HO3 := Lib.hid ho3
  obtain ⟨A3, c3, rfl, _⟩ := ho3.form
  clear hb3 ho3 HB2 HO2
  try simp only [List.drop_succ_cons, List.drop_zero]
  go_wp2_with fail
  clear e1 e2 e3 e4
  go_loopw [5, 3, 4] (fun y b a wr => ∃ (k : Nat) (ah : Int) (A' : Option Addr) (c' : Nat) (m : List UInt8), k ≤ P.length ∧ y = .int .i64 k ∧ a = .int .i64 ah ∧ b = .slice A' m.length c' ∧ Hid (m ++ ptsB ah (P.drop k) = slB fn span time P) ∧ Hid (0 ≤ ah ∧ ah ≤ 1099511627776 ∧ ∀ p ∈ P.drop k, ah ≤ p.1) ∧ Hid (OwnB wr w.heap.size (.slice A' m.length c') m) ∧ Hid (Below w.heap.size w wr)) (fun y _ _ _ => P.length - (intOf y).toNat)
  case atStart => exact ⟨0, 0, A3, c3, m3, Nat.zero_le _, rfl, rfl, rfl, HM3, Lib.hid ⟨by omega, by omega, fun p hp => by have := (HP.out.times p hp).1; omega⟩, HO3, HB3⟩
  case round =>
    obtain ⟨k, ah, A', c', m, hk, rfl, rfl, rfl, HM, HA, HOw, HBw⟩ := hrel
    have j9 := cellAt (o := 2) (keepB H1.out HBw.out) rfl
    by_cases h0 : k < P.length
    · have e0 : (k : Int) < (P.length : Int) := by omega
      have HX0 := Lib.hid h0
      obtain ⟨g, o, rfl⟩ := HAd.out (by omega)
      obtain ⟨hg, hp⟩ := RPt.pt HR.out h0
      generalize hpk : P[k] = p at hp
      obtain ⟨pt, pn⟩ := p
      have HPK := Lib.hid (show P[k]? = some (pt, pn) by rw [List.getElem?_eq_getElem h0]; exact congrArg some hpk)
      have HPN := Lib.hid (HP.out.nums (pt, pn) (List.mem_of_getElem? HPK.out))
      have HPT := Lib.hid (HP.out.times (pt, pn) (List.mem_of_getElem? HPK.out))
      have HD : Hid (P.drop k = (pt, pn) :: P.drop (k + 1)) := Lib.hid (by rw [List.drop_eq_getElem_cons h0]; exact congrArg (· :: P.drop (k + 1)) hpk)
      have HLE := Lib.hid (HA.out.2.2 (pt, pn) (by rw [HD.out]; simp))
      have HPt := Lib.hid hp
      have HGL := Lib.hid hg
      have w1 : IntKind.i64.wrap (pt - ah) = pt - ah := by have := HPT.out; have := HA.out; rw [IntKind.wrap_i64]; omega
      obtain ⟨x, hx⟩ : ∃ x, (pt - ah).toNat = x := ⟨_, rfl⟩
      have HXQ := Lib.hid hx
      have w2 : IntKind.u64.wrap (pt - ah) = (x : Int) := by have := HPT.out; have := HA.out; have := HLE.out; rw [IntKind.wrap_u64]; omega
      have HXN : Hid (N64 x) := Lib.hid (by have := HPT.out; have := HA.out; unfold N64; omega)
      obtain ⟨q1, hq1⟩ : ∃ q, m ++ numB x = q := ⟨_, rfl⟩
      obtain ⟨q2, hq2⟩ : ∃ q, q1 ++ numB (zz pn) = q := ⟨_, rfl⟩
      have Q1 := Lib.hid hq1
      have Q2 := Lib.hid hq2
      have HX1 : Hid (m.length ≤ 20000000 ∧ q1.length ≤ 20000000) := Lib.hid (by
        have h1 := HLEN.out
        rw [← HM.out, HD.out] at h1
        rw [← Q1.out]
        simp only [ptsB, HXQ.out, List.length_append] at h1 ⊢
        omega)
      clear hpk hx hp hg hq1 hq2 HAd
      have hk9 : (k : Int) + 1 ≤ 1099511627776 := by have := HN.out; omega
      go_wp2_with fail
      refine wp_region_two 23 [(0, false), (1, false), (2, false), (3, false), (4, false), (5, false), (6, false), (7, false), (8, false), (9, false), (10, false), (11, false), (13, false), (14, false), (15, false), (16, false), (17, false), (18, false), (19, false), (20, false), (21, false), (12, true), (22, true)] [] [] rfl (Below w.heap.size w) (fun W => OwnB W w.heap.size (.slice A' m.length c') m) (by kernel_rfl) (by kernel_rfl) (Stab.below _ _ (Nat.le_refl _)) (fun _ _ h hb => h.below hb) ((HBw.out).drew) HOw.out ?_
      repeat (first | (refine wt_q rfl rfl ?_; apply Exists.intro; refine ⟨fun w' hw' => ?_, fun K hK => ?_⟩; (focus ((have q0 := keepB H1.out hw'; have j2 := cellAt (o := 2) q0 rfl; have qp := HPt.out.below HGL.out hw'; unfold PtAt at qp; obtain ⟨p0, p1, p2⟩ := qp; clear q0); go_simp; first | exact quiet_value | fail)); simp only [Act.put, List.setIfInBounds_toArray, List.set_cons_zero, List.set_cons_succ]; refine hK.out _ ?_; clear hK K) | (refine wt_skip rfl rfl (fun K hK => ?_); simp only [Act.put, List.setIfInBounds_toArray, List.set_cons_zero, List.set_cons_succ]; refine hK.out _ ?_; clear hK K))
      refine wt_step rfl (fun _ => Triv) (fun u W => OwnB W w.heap.size u (q1)) (fun _ _ _ _ _ => triv _) (fun _ _ _ h hb => h.below hb) rfl rfl (fun w' hc hd => ?_) (fun K hK v => ?_); (focus (have HC := Lib.hid hc; have HDD := Lib.hid hd; clear hc hd; go_simp; refine st_enter ?_; exact by have hh := num_own (C := fun W => Below w.heap.size w W) HXN.out HDD.out HC.out (Below.size HC.out) (by have := HX1.out; omega) (fun W h => h); rw [Q1.out] at hh; exact hh)); simp only [Act.put, List.setIfInBounds_toArray, List.set_cons_zero, List.set_cons_succ]; refine hK.out _ _ _ ?_; clear hK K
      refine wt_step rfl (fun _ => Triv) (fun u W => OwnB W w.heap.size u (q2)) (fun _ _ _ _ _ => triv _) (fun _ _ _ h hb => h.below hb) rfl rfl (fun w' hc hd => ?_) (fun K hK v => ?_); (focus (have HC := Lib.hid hc; have HDD := Lib.hid hd; clear hc hd; go_simp; refine st_enter ?_; exact by have hh := sgn_own (C := fun W => Below w.heap.size w W ∧ Triv W) HPN.out HDD.out HC.out.1 (Below.size HC.out.1) (by have := HX1.out; omega) (fun W h => ⟨h, triv _⟩); rw [Q2.out] at hh; exact hh)); simp only [Act.put, List.setIfInBounds_toArray, List.set_cons_zero, List.set_cons_succ]; refine hK.out _ _ _ ?_; clear hK K
      refine wt_nil ?_
      rintro w4 ⟨⟨hb4, _⟩, _⟩ ho4
      have HB4 := Lib.hid hb4
      have HO4 := Lib.hid ho4
      obtain ⟨A4, c4, rfl, _⟩ := ho4.form
      have j2 := cellAt (o := 2) (keepB H1.out HB4.out) rfl
      obtain ⟨p0, p1, p2⟩ := HPt.out.below HGL.out HB4.out
      clear hb4 ho4 w1 w2 j9
      try simp only [List.drop_succ_cons, List.drop_zero]
      go_wp2_with fail
      go_roundw
      case rel =>
        refine ⟨k + 1, pt, A4, c4, q2, HX0.out, by have := HX0.out; have := HN.out; go_num, rfl, rfl, Lib.hid ?_, Lib.hid ⟨by have := HPT.out; omega, HPT.out.2, fun q hq => ?_⟩, HO4, HB4⟩
        · rw [← HM.out, HD.out, ← Q2.out, ← Q1.out]; simp only [ptsB, HXQ.out, List.append_assoc]
        · have hpw : (P.drop k).Pairwise fun a b => a.1 < b.1 := List.Pairwise.sublist (List.drop_sublist k P) HP.out.rise
          rw [HD.out, List.pairwise_cons] at hpw
          exact Int.le_of_lt (hpw.1 q hq)
      case measure =>
        have h1 := HX0.out
        have h2 := HN.out
        simp [intOf]; omega
    · have e0 : ¬ (k : Int) < (P.length : Int) := by omega
      have HE : Hid (m = slB fn span time P) := Lib.hid (by rw [← HM.out, List.drop_of_length_le (by omega)]; simp [ptsB])
      obtain ⟨_, _, he, _, _, hrd⟩ := HOw.out.form
      have HRd : Hid (Rd wr A' m) := Lib.hid (by injection he with e1 e2 e3; rw [e1]; exact hrd)
      clear he hrd
      go_wp2_with fail
      go_ret
      rw [← HE.out]
      exact ⟨A', c', rfl, HRd.out, HBw.out⟩
end Go.Proofs.Ytbhkgnhgecchcaa
