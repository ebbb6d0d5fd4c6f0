/- A bag as bytes. -/
import Derived.Test.YtjcbikkihijkiaaBrL
import Derived.Test.YtjcbikkihijkiaaRegU
namespace Go.Proofs.Ytjcbikkihijkiaa
open Go.RowKit
def oftB : List (Int × Nat) → List UInt8
  | [] => []
  | p :: L => numB (zz p.1) ++ numB p.2 ++ oftB L
def bagB (o : Nat) (L : List (Int × Nat)) : List UInt8 := numB o ++ (numB L.length ++ oftB L)
theorem oftB_len : ∀ (L : List (Int × Nat)), (∀ p ∈ L, I64 p.1) → (∀ p ∈ L, p.2 ≤ 1099511627776) → (oftB L).length ≤ L.length * 18
  | [], _, _ => by simp [oftB]
  | p :: L, h1, h2 => by
    have h := oftB_len L (fun q hq => h1 q (List.mem_cons_of_mem _ hq)) (fun q hq => h2 q (List.mem_cons_of_mem _ hq))
    have hp := h2 p (by simp)
    have hi := h1 p (by simp)
    have e1 : (numB p.2).length ≤ 9 := numB_len (by unfold N64; omega)
    have e2 : (numB (zz p.1)).length ≤ 9 := numB_len (zz_64 hi.1 hi.2)
    simp only [oftB, List.length_append, List.length_cons]; omega
theorem mem_sumL : ∀ {L : List (Int × Nat)} {p}, p ∈ L → p.2 ≤ sumL L
  | q :: L, p, h => by
    rcases List.mem_cons.1 h with rfl | h
    · simp only [sumL]; omega
    · have := mem_sumL h; simp only [sumL]; omega
/-- Bytes of a value, read. -/
def RVb (m : List UInt8) (v : Value) (W : World) : Prop := ∃ A c, v = .slice A m.length c ∧ Rd W A m
theorem RVb.stab (m : List UInt8) (v : Value) : Stab (RVb m v) := fun _ _ h hb => by
  obtain ⟨A, c, h1, h2⟩ := h; exact ⟨A, c, h1, h2.below hb⟩
theorem num_step {w0 w : World} {A : Option Addr} {c : Nat} {l : List UInt8} {x : Nat} (hx : N64 x) (hp : Rd w A l) (hl : l.length ≤ 1099511000000) (_hb : Below w0.heap.size w0 w) {C : World → Prop} (hC : ∀ w', Below w.heap.size w w' → C w') :
    Calls Try.prog 44 #[.slice A l.length c, .int .u64 x] w (fun e w' => ∃ u, e = .returned u ∧ stepR C (RVb (l ++ numB x)) (fun _ => Triv) u w') :=
  (number_any A c l x hx w hp hl).mono fun e w' hf => by
    obtain ⟨A', c', he, _, _, hR, _, hB⟩ := hf.read
    exact ⟨_, he, hC _ hB, ⟨A', c', rfl, hR⟩, triv _⟩
theorem sgn_step {w : World} {A : Option Addr} {c : Nat} {l : List UInt8} {x : Int} (hx : In64 x) (hp : Rd w A l) (hl : l.length ≤ 1099511000000) {C : World → Prop} (hC : ∀ w', Below w.heap.size w w' → C w') :
    Calls Try.prog 45 #[.slice A l.length c, .int .i64 x] w (fun e w' => ∃ u, e = .returned u ∧ stepR C (RVb (l ++ numB (zz x))) (fun _ => Triv) u w') :=
  (signed_any A c l x hx w hp hl).mono fun e w' hf => by
    obtain ⟨A', c', he, _, _, hR, _, hB⟩ := hf.read
    exact ⟨_, he, hC _ hB, ⟨A', c', rfl, hR⟩, triv _⟩
/-- Bytes are returned. -/
def ReadB (w : World) (l : List UInt8) (e : Ending) (w' : World) : Prop := ∃ A c, e = .returned (.slice A l.length c) ∧ Rd w' A l ∧ Below w.heap.size w w'
set_option maxHeartbeats 4000000 in
set_option maxRecDepth 100000 in
theorem bbytes_any {w : World} {F : Nat → Prop} {b o : Nat} {L : List (Int × Nat)} (h : BagL w F b L o) (hb : o + sumL L ≤ 1000000) :
    Calls Try.prog 22 #[.pointer (some ⟨b, 0, none⟩)] w (ReadB w (bagB o L)) := by
  have hok : OkL L := by obtain ⟨T, _, rfl, h3⟩ := h; exact h3
  have CR := Lib.hid (show Calls Try.prog 26 #[.pointer (some ⟨b, 0, none⟩)] w _ from by obtain ⟨T, h1, _⟩ := h; exact right_any h1)
  have CC := Lib.hid (bcounts_L h (by omega))
  obtain ⟨T, ⟨pt, Ft, g1, g2, g3, g4⟩, g5, _⟩ := h
  have H2 := Lib.hid g2
  have HK := Lib.hid hok
  have HB := Lib.hid hb
  obtain ⟨N, hN⟩ : ∃ N, L.length = N := ⟨_, rfl⟩
  have HN := Lib.hid hN
  have hN1 := len_sumL hok.one
  have hNm : N ≤ 1000000 := by omega
  have HLEN : Hid ((bagB o L).length ≤ 20000000) := Lib.hid (by
    have n1 := numB_len (show N64 o by unfold N64; omega)
    have n2 := numB_len (show N64 L.length by unfold N64; omega)
    have n3 := oftB_len L hok.in64 (fun p hp => by have := mem_sumL hp; omega)
    simp only [bagB, List.length_append]; omega)
  have e1 : IntKind.u64.wrap (o : Int) = (o : Int) := by rw [IntKind.wrap_u64]; omega
  have e2 : IntKind.u64.wrap (N : Int) = (N : Int) := by rw [IntKind.wrap_u64]; omega
  clear g1 g2 g3 g4 g5 hok hb hN hN1
  go_enter Try.func22, Try.ntmps22
  go_wp2_with fail
  refine CR.out.mono ?_
  rintro e w1 ⟨rfl, rfl⟩
  go_wp2_with fail
  refine CC.out.mono ?_
  rintro e w2 ⟨v, rfl, hr, hb⟩
  obtain ⟨ca, cap, rfl⟩ := ownsRow_form hr
  have HRow := Lib.hid hr
  have HB2 := Lib.hid hb
  rw [HN.out]
  have j2 := cellAt (o := 2) (v := .int .i64 o) (keepB H2.out hb) rfl
  clear hr hb CC CR
  go_wp2_with fail
  refine (number_any none 0 [] o (by have := HB.out; unfold N64; omega) w2 Rd.nil_ (by simp)).mono ?_
  intro e w3 hf
  obtain ⟨A3, c3, m3, rfl, HM3, _, HR3, _, HB3⟩ := hf.named
  clear hf j2
  go_wp2_with fail
  refine (number_any A3 c3 m3 N (by unfold N64; omega) w3 HR3.out (by have := numB_len (show N64 o by have := HB.out; unfold N64; omega); rw [HM3.out]; simp; omega)).mono ?_
  intro e w4 hf
  obtain ⟨A4, c4, m4, rfl, HM4, _, HR4, _, HB4⟩ := hf.named
  clear hf
  have HB24 := Lib.hid (HB3.out.trans (HB4.out.mono HB3.out.size))
  have HRow4 := Lib.hid (oft_below HRow.out HB24.out)
  have HBw4 := Lib.hid (HB2.out.trans (HB24.out.mono HB2.out.size))
  have HMa : Hid (m4 ++ oftB L = bagB o L) := Lib.hid (by rw [HM4.out, HM3.out, ← HN.out]; simp [bagB])
  clear HM4 HM3 HB3 HB4 HB24 HRow HR3
  go_wp2_with fail
  go_loopw [24, 4] (fun y bb wr => ∃ (k : Nat) (A' : Option Addr) (c' : Nat) (m : List UInt8), k ≤ N ∧ y = .int .i64 k ∧ bb = .slice A' m.length c' ∧ Hid (m ++ oftB (L.drop k) = bagB o L) ∧ Hid (Rd wr A' m) ∧ Hid (Below w4.heap.size w4 wr)) (fun y _ _ => N - (intOf y).toNat)
  case atStart => exact ⟨0, A4, c4, m4, Nat.zero_le _, rfl, rfl, HMa, HR4, Lib.hid (Below.refl _ _)⟩
  case round =>
    obtain ⟨k, A', c', m, hk, rfl, rfl, HM, HRd, HBx⟩ := hrel
    by_cases h0 : k < N
    · have e0 : (k : Int) < (N : Int) := by omega
      have hkL : k < L.length := by rw [HN.out]; exact h0
      obtain ⟨g, rfl⟩ := ownsRow_at HRow4.out (by omega)
      obtain ⟨z0, z1⟩ := oft_cell (oft_below HRow4.out HBx.out) hkL
      obtain ⟨⟨pn, pk⟩, hp⟩ : ∃ p, L[k] = p := ⟨_, rfl⟩
      have HD : Hid (L.drop k = (pn, pk) :: L.drop (k + 1)) := Lib.hid (by rw [List.drop_eq_getElem_cons hkL]; exact congrArg (· :: L.drop (k + 1)) hp)
      have hpm : (pn, pk) ∈ L := by rw [← hp]; exact List.getElem_mem hkL
      have HPN : Hid (In64 pn) := Lib.hid (HK.out.in64 _ hpm)
      have HPK : Hid (N64 pk) := Lib.hid (by have := mem_sumL hpm; have := HB.out; unfold N64; simp only at *; omega)
      have e3 : IntKind.u64.wrap (pk : Int) = (pk : Int) := by have := HPK.out; unfold N64 at this; rw [IntKind.wrap_u64]; omega
      have HX0 := Lib.hid h0
      rw [hp] at z0 z1
      simp only at z0 z1
      clear hp hpm hkL
      go_wp2_with fail
      have XB := Lib.hid (newB wr (.cells #[.int .i64 pn, .int .i64 (pk : Int)] 34))
      have HBa := Lib.hid (below_alloc HBx.out (.cells #[.int .i64 pn, .int .i64 (pk : Int)] 34))
      have HRa := Lib.hid (HRd.out.below (below_alloc (Below.refl wr.heap.size wr) (.cells #[.int .i64 pn, .int .i64 (pk : Int)] 34)))
      generalize hwa : wr.alloc (.cells #[.int .i64 pn, .int .i64 (pk : Int)] 34) = wa at *
      clear hwa z0 z1
      refine wp_region_two 8 [(0, false), (1, false), (2, false), (4, false), (5, false), (6, false), (3, true), (7, true)] [] [] rfl (Below wa.heap.size wa) (fun _ => True) (by kernel_rfl) (by kernel_rfl) (Stab.below _ _ (Nat.le_refl _)) (fun _ _ _ _ => True.intro) ((Below.refl _ _).drew) True.intro ?_
      repeat (first | (refine wt_q rfl rfl ?_; apply Exists.intro; refine ⟨fun w' hw' => ?_, fun K hK => ?_⟩; (focus ((have q0 := keepB XB.out hw'; have j0 := cellAt (o := 0) q0 rfl; have j1 := cellAt (o := 1) q0 rfl; clear q0); go_simp; first | exact quiet_value | fail)); simp only [Act.put, List.setIfInBounds_toArray, List.set_cons_zero, List.set_cons_succ]; refine hK.out _ ?_; clear hK K) | (refine wt_skip rfl rfl (fun K hK => ?_); simp only [Act.put, List.setIfInBounds_toArray, List.set_cons_zero, List.set_cons_succ]; refine hK.out _ ?_; clear hK K))
      have HX1 : Hid (m.length ≤ 20000000 ∧ (m ++ numB (zz pn)).length ≤ 20000000) := Lib.hid (by
        have h1 := HLEN.out
        rw [← HM.out, HD.out] at h1
        simp only [oftB, List.length_append] at h1 ⊢
        omega)
      refine wt_step rfl (RVb (m ++ numB (zz pn))) (fun _ => Triv) (RVb.stab _) (fun _ _ _ _ _ => triv _) rfl rfl (fun w' hc hd => ?_) (fun K hK v => ?_)
      focus
        have HC := Lib.hid hc
        clear hc hd
        go_simp
        refine st_enter ?_
        exact sgn_step HPN.out (HRa.out.below HC.out) (by have := HX1.out; omega) (fun W hb => HC.out.trans (hb.mono HC.out.size))
      simp only [Act.put, List.setIfInBounds_toArray, List.set_cons_zero, List.set_cons_succ]
      refine hK.out _ _ _ ?_
      clear hK K
      refine wt_step rfl (RVb (m ++ (numB (zz pn) ++ numB pk))) (fun _ => Triv) (RVb.stab _) (fun _ _ _ _ _ => triv _) rfl rfl (fun w' hc hd => ?_) (fun K hK v => ?_)
      focus
        have HC := Lib.hid hc
        clear hc hd
        go_simp
        refine st_enter ?_
        obtain ⟨A3, c3, rfl, hr3⟩ := HC.out.2
        have hfin := num_step (w0 := wa) (c := c3) (C := fun W => Below wa.heap.size wa W ∧ RVb (m ++ numB (zz pn)) (.slice A3 (m ++ numB (zz pn)).length c3) W) HPK.out hr3 (by have := HX1.out; omega) HC.out.1 (fun W hb => ⟨HC.out.1.trans (hb.mono HC.out.1.size), RVb.stab _ _ _ _ HC.out.2 hb⟩)
        rw [List.append_assoc] at hfin
        exact hfin
      simp only [Act.put, List.setIfInBounds_toArray, List.set_cons_zero, List.set_cons_succ]
      refine hK.out _ _ _ ?_
      clear hK K
      refine wt_nil ?_
      rintro w5 ⟨⟨hb5, _⟩, A5, c5, rfl, hr5⟩ _
      have HB5 := Lib.hid (HBa.out.trans (hb5.mono HBa.out.size))
      have HR5 := Lib.hid hr5
      have HM5 : Hid ((m ++ (numB (zz pn) ++ numB pk)) ++ oftB (L.drop (k + 1)) = bagB o L) := Lib.hid (by rw [← HM.out, HD.out]; simp [oftB])
      obtain ⟨m5, hm5⟩ : ∃ m5, m ++ (numB (zz pn) ++ numB pk) = m5 := ⟨_, rfl⟩
      rw [hm5] at HM5 HR5 ⊢
      clear hb5 hr5 hm5
      try simp only [List.drop_succ_cons, List.drop_zero]
      go_wp2_with fail
      go_roundw
      case rel => exact ⟨k + 1, A5, c5, m5, HX0.out, by go_num, rfl, HM5, HR5, HB5⟩
      case measure =>
        have := HX0.out
        simp [intOf]; omega
    · have e0 : ¬ (k : Int) < (N : Int) := by omega
      have HE : Hid (m = bagB o L) := Lib.hid (by rw [← HM.out, List.drop_of_length_le (by rw [HN.out]; omega)]; simp [oftB])
      go_wp2_with fail
      go_ret
      rw [← HE.out]
      exact ⟨A', c', rfl, HRd.out, HBw4.out.trans (HBx.out.mono HBw4.out.size)⟩
end Go.Proofs.Ytjcbikkihijkiaa
