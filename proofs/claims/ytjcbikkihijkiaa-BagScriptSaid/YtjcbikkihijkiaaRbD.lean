/- The reference's bag as bytes; waterwheelkit.Often. -/
import Derived.Test.YtjcbikkihijkiaaRbC
import Derived.Test.YtjcbikkihijkiaaWRef
namespace Go.Proofs.Ytjcbikkihijkiaa
open Go.RowKit
theorem num_own {base : Nat} {w W : World} {v : Value} {l : List UInt8} {x : Nat} {C : World → Prop} (hx : N64 x) (ho : OwnB W base v l) (hc : Below base w W) (hb : base ≤ W.heap.size) (hl : l.length ≤ 1099511000000) (hC : ∀ W', Below base w W' → C W') :
    Calls Try.prog 46 #[v, .int .u64 x] W (fun e W' => ∃ u, e = .returned u ∧ stepR C (fun _ => Triv) (fun u W => OwnB W base u (l ++ numB x)) u W') :=
  (rnumber_any base v l x hx W ho hb hl).mono fun _ _ ⟨u, he, ho', hB⟩ => ⟨u, he, hC _ (hc.trans hB), triv _, ho'⟩
theorem sgn_own {base : Nat} {w W : World} {v : Value} {l : List UInt8} {x : Int} {C : World → Prop} (hx : In64 x) (ho : OwnB W base v l) (hc : Below base w W) (hb : base ≤ W.heap.size) (hl : l.length ≤ 1099511000000) (hC : ∀ W', Below base w W' → C W') :
    Calls Try.prog 47 #[v, .int .i64 x] W (fun e W' => ∃ u, e = .returned u ∧ stepR C (fun _ => Triv) (fun u W => OwnB W base u (l ++ numB (zz x))) u W') :=
  (rsigned_any base v l x hx W ho hb hl).mono fun _ _ ⟨u, he, ho', hB⟩ => ⟨u, he, hC _ (hc.trans hB), triv _, ho'⟩
set_option maxHeartbeats 4000000 in
set_option maxRecDepth 100000 in
theorem rbbytes_any {w : World} {G : Nat → Prop} {r o : Nat} {L : List (Int × Nat)} (h : RfB w G r L o) (hok : OkL L) (hb : o + sumL L ≤ 1000000) :
    Calls Try.prog 23 #[.pointer (some ⟨r, 0, none⟩)] w (ReadB w (bagB o L)) := by
  obtain ⟨A, cap, g1, g2⟩ := h.open
  have HG1 := Lib.hid g1
  have HR := Lib.hid g2
  have HK := Lib.hid hok
  have HB := Lib.hid hb
  obtain ⟨N, hN⟩ : ∃ N, L.length = N := ⟨_, rfl⟩
  have HN := Lib.hid hN
  have hN1 := len_sumL hok.one
  have hNm : N ≤ 1000000 := by omega
  have HLEN : Hid ((bagB o L).length ≤ 20000000) := Lib.hid (by
    have n1 := numB_len (show N64 o by unfold N64; omega)
    have n2 := numB_len (show N64 L.length by unfold N64; omega)
    have n3 := oftB_len L hok.in64 (fun p hp => by have := mem_sumL hp; omega)
    simp only [bagB, List.length_append]; omega)
  have e1 : IntKind.u64.wrap (o : Int) = (o : Int) := by rw [IntKind.wrap_u64]; omega
  have e2 : IntKind.u64.wrap (N : Int) = (N : Int) := by rw [IntKind.wrap_u64]; omega
  have E1 : Hid (N64 o) := Lib.hid (by unfold N64; omega)
  have E2 : Hid (N64 N) := Lib.hid (by unfold N64; omega)
  have HFm : Hid (∀ W, Below w.heap.size w W → W.cell? ⟨r, 0, none⟩ = some (.slice A N cap) ∧ W.cell? ⟨r, 1, none⟩ = some (.int .i64 (o : Int))) := Lib.hid (fun W hb => by rw [← hN]; exact ⟨cellAt (o := 0) (keepB g1 hb) rfl, cellAt (o := 1) (keepB g1 hb) rfl⟩)
  obtain ⟨m1, hm1⟩ : ∃ m, numB o = m := ⟨_, rfl⟩
  obtain ⟨m2, hm2⟩ : ∃ m, m1 ++ numB N = m := ⟨_, rfl⟩
  have M1 := Lib.hid hm1
  have M2 := Lib.hid hm2
  have L1 : Hid (m1.length ≤ 9) := Lib.hid (by rw [← M1.out]; exact numB_len E1.out)
  have HM3 : Hid (m2 ++ oftB L = bagB o L) := Lib.hid (by rw [← M2.out, ← M1.out, ← HN.out]; simp [bagB])
  clear h hok hb hN hN1 g1 g2 hm1 hm2
  go_enter Try.func23, Try.ntmps23
  go_wp2_with fail
  refine wp_region_two 13 [(0, false), (1, false), (2, false), (3, false), (4, false), (6, false), (7, false), (8, false), (9, false), (10, false), (11, false), (5, true), (12, true)] [] [] rfl (Below w.heap.size w) (fun _ => True) (by kernel_rfl) (by kernel_rfl) (Stab.below _ _ (Nat.le_refl _)) (fun _ _ _ _ => True.intro) ((Below.refl _ _).drew) True.intro ?_
  repeat (first | (refine wt_q rfl rfl ?_; apply Exists.intro; refine ⟨fun w' hw' => ?_, fun K hK => ?_⟩; (focus ((obtain ⟨j0, j1⟩ := HFm.out _ hw'); go_simp; first | exact quiet_value | fail)); simp only [Act.put, List.setIfInBounds_toArray, List.set_cons_zero, List.set_cons_succ]; refine hK.out _ ?_; clear hK K) | (refine wt_skip rfl rfl (fun K hK => ?_); simp only [Act.put, List.setIfInBounds_toArray, List.set_cons_zero, List.set_cons_succ]; refine hK.out _ ?_; clear hK K))
  refine wt_step rfl (fun _ => Triv) (fun u W => OwnB W w.heap.size u (m1)) (fun _ _ _ _ _ => triv _) (fun _ _ _ h hb => h.below hb) rfl rfl (fun w' hc hd => ?_) (fun K hK v => ?_); (focus (have HC := Lib.hid hc; have HDD := Lib.hid hd; clear hc hd; go_simp; refine st_enter ?_; exact by have hh := num_own (C := Below w.heap.size w) (l := []) E1.out OwnB.nil_ HC.out (Below.size HC.out) (by simp) (fun W h => h); rw [List.nil_append, M1.out] at hh; exact hh)); simp only [Act.put, List.setIfInBounds_toArray, List.set_cons_zero, List.set_cons_succ]; refine hK.out _ _ _ ?_; clear hK K
  refine wt_step rfl (fun _ => Triv) (fun u W => OwnB W w.heap.size u (m2)) (fun _ _ _ _ _ => triv _) (fun _ _ _ h hb => h.below hb) rfl rfl (fun w' hc hd => ?_) (fun K hK v => ?_); (focus (have HC := Lib.hid hc; have HDD := Lib.hid hd; clear hc hd; go_simp; refine st_enter ?_; exact by have hh := num_own (C := fun W => Below w.heap.size w W ∧ Triv W) E2.out HDD.out HC.out.1 (Below.size HC.out.1) (by have := L1.out; omega) (fun W h => ⟨h, triv _⟩); rw [M2.out] at hh; exact hh)); simp only [Act.put, List.setIfInBounds_toArray, List.set_cons_zero, List.set_cons_succ]; refine hK.out _ _ _ ?_; clear hK K
  refine wt_nil ?_
  rintro w2 ⟨⟨hb2, _⟩, _⟩ ho2
  have HB2 := Lib.hid hb2
  obtain ⟨A2, c2, rfl, _⟩ := ho2.form
  have HO2 := Lib.hid ho2
  clear hb2 ho2 e1 e2
  try simp only [List.drop_succ_cons, List.drop_zero]
  go_wp2_with fail
  go_loopw [4, 3] (fun y b wr => ∃ (k : Nat) (A' : Option Addr) (c' : Nat) (m : List UInt8), k ≤ N ∧ y = .int .i64 k ∧ b = .slice A' m.length c' ∧ Hid (m ++ oftB (L.drop k) = bagB o L) ∧ Hid (OwnB wr w.heap.size (.slice A' m.length c') m) ∧ Hid (Below w.heap.size w wr)) (fun y _ _ => N - (intOf y).toNat)
  case atStart => exact ⟨0, A2, c2, m2, Nat.zero_le _, rfl, rfl, HM3, HO2, HB2⟩
  case round =>
    obtain ⟨k, A', c', m, hk, rfl, rfl, HM, HOw, HBw⟩ := hrel
    obtain ⟨j9, _⟩ := HFm.out _ HBw.out
    by_cases h0 : k < N
    · have e0 : (k : Int) < (N : Int) := by omega
      have hkL : k < L.length := by rw [HN.out]; exact h0
      obtain ⟨g, rfl⟩ := ownsRow_at HR.out (by omega)
      have HCell := Lib.hid (fun (W : World) (hb : Below w.heap.size w W) => oft_cell (own_bel HR.out hb) hkL)
      obtain ⟨⟨pn, pk⟩, hp⟩ : ∃ p, L[k] = p := ⟨_, rfl⟩
      have HD : Hid (L.drop k = (pn, pk) :: L.drop (k + 1)) := Lib.hid (by rw [List.drop_eq_getElem_cons hkL]; exact congrArg (· :: L.drop (k + 1)) hp)
      have hpm : (pn, pk) ∈ L := by rw [← hp]; exact List.getElem_mem hkL
      have HPN : Hid (In64 pn) := Lib.hid (HK.out.in64 _ hpm)
      have HPK : Hid (N64 pk) := Lib.hid (by have := mem_sumL hpm; have := HB.out; unfold N64; simp only at *; omega)
      have e3 : IntKind.u64.wrap (pk : Int) = (pk : Int) := by have := HPK.out; unfold N64 at this; rw [IntKind.wrap_u64]; omega
      have HX0 := Lib.hid h0
      rw [hp] at HCell
      obtain ⟨q1, hq1⟩ : ∃ q, m ++ numB (zz pn) = q := ⟨_, rfl⟩
      obtain ⟨q2, hq2⟩ : ∃ q, q1 ++ numB pk = q := ⟨_, rfl⟩
      have Q1 := Lib.hid hq1
      have Q2 := Lib.hid hq2
      have HX1 : Hid (m.length ≤ 20000000 ∧ q1.length ≤ 20000000) := Lib.hid (by
        have h1 := HLEN.out
        rw [← HM.out, HD.out] at h1
        rw [← Q1.out]
        simp only [oftB, List.length_append] at h1 ⊢
        omega)
      have HM5 : Hid (q2 ++ oftB (L.drop (k + 1)) = bagB o L) := Lib.hid (by rw [← HM.out, HD.out, ← Q2.out, ← Q1.out]; simp [oftB])
      clear hp hpm hkL hq1 hq2
      go_wp2_with fail
      refine wp_region_two 20 [(0, false), (1, false), (2, false), (3, false), (4, false), (5, false), (6, false), (7, false), (8, false), (10, false), (11, false), (12, false), (13, false), (14, false), (15, false), (16, false), (17, false), (18, false), (9, true), (19, true)] [] [] rfl (Below w.heap.size w) (fun W => OwnB W w.heap.size (.slice A' m.length c') m) (by kernel_rfl) (by kernel_rfl) (Stab.below _ _ (Nat.le_refl _)) (fun _ _ h hb => h.below hb) ((HBw.out).drew) HOw.out ?_
      repeat (first | (refine wt_q rfl rfl ?_; apply Exists.intro; refine ⟨fun w' hw' => ?_, fun K hK => ?_⟩; (focus ((obtain ⟨j0, _⟩ := HFm.out _ hw'; obtain ⟨z0, z1⟩ := HCell.out _ hw'); go_simp; first | exact quiet_value | fail)); simp only [Act.put, List.setIfInBounds_toArray, List.set_cons_zero, List.set_cons_succ]; refine hK.out _ ?_; clear hK K) | (refine wt_skip rfl rfl (fun K hK => ?_); simp only [Act.put, List.setIfInBounds_toArray, List.set_cons_zero, List.set_cons_succ]; refine hK.out _ ?_; clear hK K))
      refine wt_step rfl (fun _ => Triv) (fun u W => OwnB W w.heap.size u (q1)) (fun _ _ _ _ _ => triv _) (fun _ _ _ h hb => h.below hb) rfl rfl (fun w' hc hd => ?_) (fun K hK v => ?_); (focus (have HC := Lib.hid hc; have HDD := Lib.hid hd; clear hc hd; go_simp; refine st_enter ?_; exact by have hh := sgn_own (C := fun W => Below w.heap.size w W) HPN.out HDD.out HC.out (Below.size HC.out) (by have := HX1.out; omega) (fun W h => h); rw [Q1.out] at hh; exact hh)); simp only [Act.put, List.setIfInBounds_toArray, List.set_cons_zero, List.set_cons_succ]; refine hK.out _ _ _ ?_; clear hK K
      refine wt_step rfl (fun _ => Triv) (fun u W => OwnB W w.heap.size u (q2)) (fun _ _ _ _ _ => triv _) (fun _ _ _ h hb => h.below hb) rfl rfl (fun w' hc hd => ?_) (fun K hK v => ?_); (focus (have HC := Lib.hid hc; have HDD := Lib.hid hd; clear hc hd; go_simp; refine st_enter ?_; exact by have hh := num_own (C := fun W => Below w.heap.size w W ∧ Triv W) HPK.out HDD.out HC.out.1 (Below.size HC.out.1) (by have := HX1.out; omega) (fun W h => ⟨h, triv _⟩); rw [Q2.out] at hh; exact hh)); simp only [Act.put, List.setIfInBounds_toArray, List.set_cons_zero, List.set_cons_succ]; refine hK.out _ _ _ ?_; clear hK K
      refine wt_nil ?_
      rintro w4 ⟨⟨hb4, _⟩, _⟩ ho4
      have HB4 := Lib.hid hb4
      have HO4 := Lib.hid ho4
      obtain ⟨A4, c4, rfl, _⟩ := ho4.form
      clear hb4 ho4 j9 e3
      try simp only [List.drop_succ_cons, List.drop_zero]
      have hk9 : (k : Int) + 1 ≤ 1000000 := by omega
      go_wp2_with fail
      go_roundw
      case rel => exact ⟨k + 1, A4, c4, q2, HX0.out, by go_num, rfl, HM5, HO4, HB4⟩
      case measure =>
        have h1 := HX0.out
        simp [intOf]; omega
    · have e0 : ¬ (k : Int) < (N : Int) := by omega
      have HE : Hid (m = bagB o L) := Lib.hid (by rw [← HM.out, List.drop_of_length_le (by rw [HN.out]; omega)]; simp [oftB])
      obtain ⟨_, _, he, _, _, hrd⟩ := HOw.out.form
      have HRd : Hid (Rd wr A' m) := Lib.hid (by injection he with e1 e2 e3; rw [e1]; exact hrd)
      clear he hrd
      go_wp2_with fail
      go_ret
      rw [← HE.out]
      exact ⟨A', c', rfl, HRd.out, HBw.out⟩
end Go.Proofs.Ytjcbikkihijkiaa
