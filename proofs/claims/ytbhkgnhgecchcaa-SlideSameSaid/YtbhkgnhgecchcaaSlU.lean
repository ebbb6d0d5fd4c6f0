/- A slide as bytes. -/
import Derived.Test.YtbhkgnhgecchcaaSlT
import Derived.Test.YtbhkgnhgecchcaaRegT
namespace Go.Proofs.Ytbhkgnhgecchcaa
open Go.RowKit
/-- Points as bytes, the first behind this time. -/
def ptsB : Int → List Pt → List UInt8
  | _, [] => []
  | a, p :: P => numB (p.1 - a).toNat ++ numB (zz p.2) ++ ptsB p.1 P
def slB (fn span time : Int) (P : List Pt) : List UInt8 := numB fn.toNat ++ (numB span.toNat ++ (numB time.toNat ++ (numB P.length ++ ptsB 0 P)))
theorem ptsB_len : ∀ (P : List Pt) (a : Int), (∀ p ∈ P, In64 p.2) → (∀ p ∈ P, p.1 ≤ 1099511627776) → 0 ≤ a → (∀ p ∈ P, 0 ≤ p.1) → (ptsB a P).length ≤ P.length * 18
  | [], _, _, _, _, _ => by simp [ptsB]
  | p :: P, a, h1, h2, h3, h4 => by
    have h := ptsB_len P p.1 (fun q hq => h1 q (List.mem_cons_of_mem _ hq)) (fun q hq => h2 q (List.mem_cons_of_mem _ hq)) (h4 p (by simp)) (fun q hq => h4 q (List.mem_cons_of_mem _ hq))
    have hp := h2 p (by simp)
    have e1 : (numB (p.1 - a).toNat).length ≤ 9 := numB_len (by unfold N64; omega)
    have e2 : (numB (zz p.2)).length ≤ 9 := numB_len (zz_64 (h1 p (by simp)).1 (h1 p (by simp)).2)
    simp only [ptsB, List.length_append, List.length_cons]; omega
/-- Bytes of a value, read. -/
def RVb (m : List UInt8) (v : Value) (W : World) : Prop := ∃ A c, v = .slice A m.length c ∧ Rd W A m
theorem RVb.stab (m : List UInt8) (v : Value) : Stab (RVb m v) := fun _ _ h hb => by
  obtain ⟨A, c, h1, h2⟩ := h; exact ⟨A, c, h1, h2.below hb⟩
/-- A new row of four numbers. -/
def MK4 (a b c d : Nat) (v : Value) (W : World) : Prop := ∃ H, v = .slice (some ⟨H, 0, none⟩) 4 4 ∧ W.heap[H]? = some (.cells #[.int .u64 a, .int .u64 b, .int .u64 c, .int .u64 d] 69 (0, 0))
theorem MK4.stab {a b c d : Nat} (v : Value) : Stab (MK4 a b c d v) := fun _ _ h hb => by
  obtain ⟨H, h1, h2⟩ := h; exact ⟨H, h1, keepB h2 hb⟩
theorem num_step {w0 w : World} {A : Option Addr} {c : Nat} {l : List UInt8} {x : Nat} (hx : N64 x) (hp : Rd w A l) (hl : l.length ≤ 1099511000000) (_hb : Below w0.heap.size w0 w) {C : World → Prop} (hC : ∀ w', Below w.heap.size w w' → C w') :
    Calls Try.prog 34 #[.slice A l.length c, .int .u64 x] w (fun e w' => ∃ u, e = .returned u ∧ stepR C (RVb (l ++ numB x)) (fun _ => Triv) u w') :=
  (number_any A c l x hx w hp hl).mono fun e w' hf => by
    obtain ⟨A', c', he, _, _, hR, _, hB⟩ := hf.read
    exact ⟨_, he, hC _ hB, ⟨A', c', rfl, hR⟩, triv _⟩
theorem sgn_step {w : World} {A : Option Addr} {c : Nat} {l : List UInt8} {x : Int} (hx : In64 x) (hp : Rd w A l) (hl : l.length ≤ 1099511000000) {C : World → Prop} (hC : ∀ w', Below w.heap.size w w' → C w') :
    Calls Try.prog 35 #[.slice A l.length c, .int .i64 x] w (fun e w' => ∃ u, e = .returned u ∧ stepR C (RVb (l ++ numB (zz x))) (fun _ => Triv) u w') :=
  (signed_any A c l x hx w hp hl).mono fun e w' hf => by
    obtain ⟨A', c', he, _, _, hR, _, hB⟩ := hf.read
    exact ⟨_, he, hC _ hB, ⟨A', c', rfl, hR⟩, triv _⟩
/-- Bytes are returned. -/
def ReadB (w : World) (l : List UInt8) (e : Ending) (w' : World) : Prop := ∃ A c, e = .returned (.slice A l.length c) ∧ Rd w' A l ∧ Below w.heap.size w w'
theorem four_cell {w : World} {H k x a b c d : Nat} (h : w.heap[H]? = some (.cells #[.int .u64 a, .int .u64 b, .int .u64 c, .int .u64 d] 69 (0, 0))) (hx : [a, b, c, d][k]? = some x) : w.cell? ⟨H, k, none⟩ = some (.int .u64 (x : Int)) := by
  match k, hx with
  | 0, hx => cases hx; exact cellAt (o := 0) h rfl
  | 1, hx => cases hx; exact cellAt (o := 1) h rfl
  | 2, hx => cases hx; exact cellAt (o := 2) h rfl
  | 3, hx => cases hx; exact cellAt (o := 3) h rfl
def hdB (l : List Nat) (k : Nat) : List UInt8 := ((l.take k).map numB).flatten
theorem hdB_succ {l : List Nat} {k x : Nat} (h : l[k]? = some x) : hdB l (k + 1) = hdB l k ++ numB x := by
  unfold hdB; rw [List.take_add_one, h]; simp
theorem hdB_len : ∀ (l : List Nat) (k : Nat), (∀ x ∈ l, N64 x) → (hdB l k).length ≤ l.length * 9
  | [], k, _ => by simp [hdB]
  | x :: l, 0, _ => by simp [hdB]
  | x :: l, k + 1, h => by
    have h1 := hdB_len l k (fun y hy => h y (List.mem_cons_of_mem _ hy))
    have h2 := numB_len (h x (by simp))
    unfold hdB at *
    simp only [List.take_succ_cons, List.map_cons, List.flatten_cons, List.length_append, List.length_cons]; omega
set_option maxHeartbeats 4000000 in
set_option maxRecDepth 100000 in
theorem bytes_made {w : World} {F : Nat → Prop} {s : Nat} {fn span time : Nat} {P : List Pt} {K : Nat} (h : SlideW w F s fn span time P K) (hP : Sane P) (h1 : fn ≤ 6) (h2 : span ≤ 1073741824) (h3 : time ≤ 1099511627776) (h4 : P.length ≤ 1000000) :
    Calls Try.prog 16 #[.pointer (some ⟨s, 0, none⟩)] w (ReadB w (slB fn span time P)) := by
  have CR := Lib.hid (right_made h)
  obtain ⟨_, lv, iv, g1, g2, _⟩ := h
  obtain ⟨A, c, rfl, _, _, hr, hn0, had⟩ := g2.form
  have HAd : Hid (0 < P.length → ∃ g o, A = some ⟨g, o, none⟩) := Lib.hid (fun h0 => by
    obtain ⟨g, o, c', he, _⟩ := g2.ad h0
    injection he with he
    exact ⟨g, o, he⟩)
  have H1 := Lib.hid g1
  have HR := Lib.hid (show RPt w A P from hr)
  have HN := Lib.hid h4
  have HP := Lib.hid hP
  have e1 : IntKind.u64.wrap (fn : Int) = (fn : Int) := by rw [IntKind.wrap_u64]; omega
  have e2 : IntKind.u64.wrap (span : Int) = (span : Int) := by rw [IntKind.wrap_u64]; omega
  have e3 : IntKind.u64.wrap (time : Int) = (time : Int) := by rw [IntKind.wrap_u64]; omega
  have e4 : IntKind.u64.wrap (P.length : Int) = (P.length : Int) := by rw [IntKind.wrap_u64]; omega
  have E1 := Lib.hid h1
  have E2 := Lib.hid h2
  have E3 := Lib.hid h3
  clear g1 g2 hr hn0 had hP h1 h2 h3
  go_enter Try.func16, Try.ntmps16
  go_wp2_with fail
  refine CR.out.mono ?_
  rintro e w1 ⟨rfl, rfl⟩
  go_wp2_with fail
  refine wp_region_two 24 [(0, false), (1, false), (2, false), (3, false), (4, false), (5, false), (6, false), (7, false), (8, false), (9, false), (10, false), (11, false), (12, false), (13, false), (14, false), (15, false), (16, false), (17, false), (18, false), (19, false), (20, false), (23, false), (21, true), (22, false)] [(21, MK4 fn span time P.length)] [21] rfl (Below w.heap.size w) (fun _ => True) (by kernel_rfl) (by kernel_rfl) (Stab.below _ _ (Nat.le_refl _)) (fun _ _ _ _ => True.intro) ((Below.refl _ _).drew) True.intro ?_
  repeat (first | (refine wt_q rfl rfl ?_; apply Exists.intro; refine ⟨fun w' hw' => ?_, fun K hK => ?_⟩; (focus ((have q0 := keepB H1.out hw'; have j0 := cellAt (o := 0) q0 rfl; have j1 := cellAt (o := 1) q0 rfl; have j2 := cellAt (o := 2) q0 rfl; have j3 := cellAt (o := 3) q0 rfl; clear q0); go_simp; first | exact quiet_value | fail)); simp only [Act.put, List.setIfInBounds_toArray, List.set_cons_zero, List.set_cons_succ]; refine hK.out _ ?_; clear hK K) | (refine wt_skip rfl rfl (fun K hK => ?_); simp only [Act.put, List.setIfInBounds_toArray, List.set_cons_zero, List.set_cons_succ]; refine hK.out _ ?_; clear hK K))
  refine wt_make (MK4 fn span time P.length) rfl MK4.stab rfl rfl (fun w' => ?_) (fun K hK v => ?_)
  focus
    go_simp
    exact ⟨(Below.refl _ _).alloc (Nat.le_refl _) _, _, rfl, newB _ _⟩
  simp only [Act.put, List.setIfInBounds_toArray, List.set_cons_zero, List.set_cons_succ]
  refine hK.out _ _ ?_
  clear hK K
  repeat (first | (refine wt_q rfl rfl ?_; apply Exists.intro; refine ⟨fun w' hw' => ?_, fun K hK => ?_⟩; (focus ((obtain ⟨_, H, rfl, _⟩ := hw'); go_simp; first | exact quiet_value | fail)); simp only [Act.put, List.setIfInBounds_toArray, List.set_cons_zero, List.set_cons_succ]; refine hK.out _ ?_; clear hK K) | (refine wt_skip rfl rfl (fun K hK => ?_); simp only [Act.put, List.setIfInBounds_toArray, List.set_cons_zero, List.set_cons_succ]; refine hK.out _ ?_; clear hK K))
  refine wt_nil ?_
  rintro w2 ⟨hb2, H, rfl, hbk⟩ _
  have HB2 := Lib.hid hb2
  have HK := Lib.hid hbk
  clear hb2 hbk
  try simp only [List.drop_succ_cons, List.drop_zero]
  go_wp2_with fail
  have HNS : Hid (∀ x ∈ [fn, span, time, P.length], N64 x) := Lib.hid (fun x hx => by
    have := E1.out; have := E2.out; have := E3.out; have := HN.out
    simp only [List.mem_cons, List.not_mem_nil, or_false] at hx
    unfold N64; omega)
  have HLEN : Hid ((slB fn span time P).length ≤ 20000000) := Lib.hid (by
    have n1 := numB_len (HNS.out fn (by simp))
    have n2 := numB_len (HNS.out span (by simp))
    have n3 := numB_len (HNS.out time (by simp))
    have n4 := numB_len (HNS.out P.length (by simp))
    have n5 := ptsB_len P 0 HP.out.nums (fun p hp => (HP.out.times p hp).2) (Int.le_refl _) (fun p hp => by have := (HP.out.times p hp).1; omega)
    have := HN.out
    simp only [slB, List.length_append, Int.toNat_natCast]; omega)
  go_loopw [35, 3] (fun y b wr => ∃ (k : Nat) (A' : Option Addr) (c' : Nat) (m : List UInt8), k ≤ 4 ∧ y = .int .i64 k ∧ b = .slice A' m.length c' ∧ Hid (m = hdB [fn, span, time, P.length] k) ∧ Hid (Rd wr A' m) ∧ Hid (Below w.heap.size w wr) ∧ Hid (Below w2.heap.size w2 wr)) (fun y _ _ => 4 - (intOf y).toNat)
  case atStart => exact ⟨0, none, 0, [], by omega, rfl, rfl, Lib.hid rfl, Lib.hid Rd.nil_, HB2, Lib.hid (Below.refl _ _)⟩
  case round =>
    obtain ⟨k, A', c', m, hk, rfl, rfl, HM, HRd, HBw, HBx⟩ := hrel
    by_cases h0 : k < 4
    · have e0 : (k : Int) < 4 := by omega
      have HX0 := Lib.hid h0
      obtain ⟨x, hx⟩ : ∃ x, [fn, span, time, P.length][k]? = some x := ⟨_, List.getElem?_eq_getElem (by simpa using h0)⟩
      have k0 := four_cell (keepB HK.out HBx.out) hx
      have HX := Lib.hid hx
      have CN := Lib.hid (number_any A' c' m x (HNS.out x (List.mem_of_getElem? hx)) wr HRd.out (by have := hdB_len _ k HNS.out; rw [← HM.out] at this; simp at this; omega))
      clear hx
      go_wp2_with fail
      refine CN.out.mono ?_
      intro e w3 hf
      obtain ⟨A3, c3, m3, rfl, HM3, _, HR3, _, HB3⟩ := hf.named
      clear hf
      go_wp2_with fail
      go_roundw
      case rel => exact ⟨k + 1, A3, c3, m3, HX0.out, by go_num, rfl, Lib.hid (by rw [HM3.out, HM.out, hdB_succ HX.out]), HR3, Lib.hid (HBw.out.trans (HB3.out.mono HBw.out.size)), Lib.hid (HBx.out.trans (HB3.out.mono HBx.out.size))⟩
      case measure =>
        have := HX0.out
        simp [intOf]; omega
    · obtain rfl : k = 4 := by omega
      have j3 := cellAt (o := 3) (keepB H1.out HBw.out) rfl
      have HM4 : Hid (m ++ ptsB 0 P = slB fn span time P) := Lib.hid (by rw [HM.out]; simp [hdB, slB])
      clear HM HK HBx
      go_wp2_with fail
      clear j3
      have HRw := Lib.hid (HR.out.below HBw.out)
      go_loopw [48, 3, 6] (fun y b a wr => ∃ (k : Nat) (ah : Int) (A' : Option Addr) (c' : Nat) (m : List UInt8), k ≤ P.length ∧ y = .int .i64 k ∧ a = .int .i64 ah ∧ b = .slice A' m.length c' ∧ Hid (m ++ ptsB ah (P.drop k) = slB fn span time P) ∧ Hid (0 ≤ ah ∧ ah ≤ 1099511627776 ∧ ∀ p ∈ P.drop k, ah ≤ p.1) ∧ Hid (Rd wr A' m) ∧ Hid (Below w.heap.size w wr)) (fun y _ _ _ => P.length - (intOf y).toNat)
      case atStart => exact ⟨0, 0, A', c', m, Nat.zero_le _, rfl, rfl, rfl, HM4, Lib.hid ⟨by omega, by omega, fun p hp => by have := (HP.out.times p hp).1; omega⟩, HRd, HBw⟩
      case round =>
        obtain ⟨k, ah, A', c', m, hk, rfl, rfl, rfl, HM, HA, HRd, HBw⟩ := hrel
        by_cases h0 : k < P.length
        · have e0 : (k : Int) < (P.length : Int) := by omega
          have HX0 := Lib.hid h0
          obtain ⟨g, o, rfl⟩ := HAd.out (by omega)
          obtain ⟨hg, hp⟩ := RPt.pt (HR.out.below HBw.out) h0
          generalize hpk : P[k] = p at hp
          obtain ⟨pt, pn⟩ := p
          have HPK := Lib.hid (show P[k]? = some (pt, pn) by rw [List.getElem?_eq_getElem h0]; exact congrArg some hpk)
          have hpt := HP.out.times (pt, pn) (List.mem_of_getElem? HPK.out)
          have hpn := HP.out.nums (pt, pn) (List.mem_of_getElem? HPK.out)
          have HD : Hid (P.drop k = (pt, pn) :: P.drop (k + 1)) := Lib.hid (by rw [List.drop_eq_getElem_cons h0]; exact congrArg (· :: P.drop (k + 1)) hpk)
          have hah := HA.out
          have hle := hah.2.2 (pt, pn) (by rw [HD.out]; simp)
          unfold PtAt at hp
          obtain ⟨p0, p1, p2⟩ := hp
          have HPN := Lib.hid hpn
          have HPT := Lib.hid hpt
          have HLE := Lib.hid hle
          clear hpk hpn hpt hah hle
          go_wp2_with fail
          have XB := Lib.hid (newB wr (.cells #[.int .i64 pt, .int .i64 pn, .bool false] 54))
          have HBa := Lib.hid (below_alloc HBw.out (.cells #[.int .i64 pt, .int .i64 pn, .bool false] 54))
          have HRa := Lib.hid (HRd.out.below (below_alloc (Below.refl wr.heap.size wr) (.cells #[.int .i64 pt, .int .i64 pn, .bool false] 54)))
          generalize hwa : wr.alloc (.cells #[.int .i64 pt, .int .i64 pn, .bool false] 54) = wa at *
          clear hwa
          have w1 : IntKind.i64.wrap (pt - ah) = pt - ah := by have := HPT.out; have := HA.out; rw [IntKind.wrap_i64]; omega
          obtain ⟨x, hx⟩ : ∃ x, (pt - ah).toNat = x := ⟨_, rfl⟩
          have HXQ := Lib.hid hx
          have w2 : IntKind.u64.wrap (pt - ah) = (x : Int) := by have := HPT.out; have := HA.out; have := HLE.out; rw [IntKind.wrap_u64]; omega
          have HXN : Hid (N64 x) := Lib.hid (by have := HPT.out; have := HA.out; unfold N64; omega)
          clear hx
          refine wp_region_two 11 [(0, false), (1, false), (2, false), (3, false), (4, false), (5, false), (7, false), (8, false), (9, false), (6, true), (10, true)] [] [] rfl (Below wa.heap.size wa) (fun _ => True) (by kernel_rfl) (by kernel_rfl) (Stab.below _ _ (Nat.le_refl _)) (fun _ _ _ _ => True.intro) ((Below.refl _ _).drew) True.intro ?_
          repeat (first | (refine wt_q rfl rfl ?_; apply Exists.intro; refine ⟨fun w' hw' => ?_, fun K hK => ?_⟩; (focus ((have q0 := keepB XB.out hw'; have j0 := cellAt (o := 0) q0 rfl; have j1 := cellAt (o := 1) q0 rfl; clear q0); go_simp; first | exact quiet_value | fail)); simp only [Act.put, List.setIfInBounds_toArray, List.set_cons_zero, List.set_cons_succ]; refine hK.out _ ?_; clear hK K) | (refine wt_skip rfl rfl (fun K hK => ?_); simp only [Act.put, List.setIfInBounds_toArray, List.set_cons_zero, List.set_cons_succ]; refine hK.out _ ?_; clear hK K))
          have HX1 : Hid (m.length ≤ 20000000 ∧ (m ++ numB x).length ≤ 20000000) := Lib.hid (by
            have h1 := HLEN.out
            rw [← HM.out, HD.out] at h1
            simp only [ptsB, HXQ.out, List.length_append] at h1 ⊢
            omega)
          refine wt_step rfl (RVb (m ++ numB x)) (fun _ => Triv) (RVb.stab _) (fun _ _ _ _ _ => triv _) rfl rfl (fun w' hc hd => ?_) (fun K hK v => ?_)
          focus
            have HC := Lib.hid hc
            clear hc hd
            go_simp
            refine st_enter ?_
            exact num_step HXN.out (HRa.out.below HC.out) (by have := HX1.out; omega) HC.out (fun W hb => HC.out.trans (hb.mono HC.out.size))
          simp only [Act.put, List.setIfInBounds_toArray, List.set_cons_zero, List.set_cons_succ]
          refine hK.out _ _ _ ?_
          clear hK K
          refine wt_step rfl (RVb (m ++ (numB x ++ numB (zz pn)))) (fun _ => Triv) (RVb.stab _) (fun _ _ _ _ _ => triv _) rfl rfl (fun w' hc hd => ?_) (fun K hK v => ?_)
          focus
            have HC := Lib.hid hc
            clear hc hd
            go_simp
            refine st_enter ?_
            obtain ⟨A3, c3, rfl, hr3⟩ := HC.out.2
            have hfin := sgn_step (c := c3) (C := fun W => Below wa.heap.size wa W ∧ RVb (m ++ numB x) (.slice A3 (m ++ numB x).length c3) W) HPN.out hr3 (by have := HX1.out; omega) (fun W hb => ⟨HC.out.1.trans (hb.mono HC.out.1.size), RVb.stab _ _ _ _ HC.out.2 hb⟩)
            rw [List.append_assoc] at hfin
            exact hfin
          simp only [Act.put, List.setIfInBounds_toArray, List.set_cons_zero, List.set_cons_succ]
          refine hK.out _ _ _ ?_
          clear hK K
          refine wt_nil ?_
          rintro w3 ⟨⟨hb3, _⟩, A4, c4, rfl, hr4⟩ _
          have j0 := cellAt (o := 0) (keepB XB.out hb3) rfl
          have HB3 := Lib.hid (HBa.out.trans (hb3.mono HBa.out.size))
          have HR4 := Lib.hid hr4
          clear hb3 hr4 w1 w2
          try simp only [List.drop_succ_cons, List.drop_zero]
          go_wp2_with fail
          go_roundw
          case rel =>
            refine ⟨_, _, _, _, _, _, _, _, _, _, _, _, _, _, _, _, _, _, _, _, _, ⟨k + 1, pt, A4, c4, m ++ (numB x ++ numB (zz pn)), HX0.out, by go_num, rfl, rfl, Lib.hid ?_, Lib.hid ⟨by have := HPT.out; omega, HPT.out.2, fun q hq => ?_⟩, HR4, HB3⟩, rfl⟩
            · rw [← HM.out, HD.out]; simp only [ptsB, HXQ.out, List.append_assoc]
            · have hpw : (P.drop k).Pairwise fun a b => a.1 < b.1 := List.Pairwise.sublist (List.drop_sublist k P) HP.out.rise
              rw [HD.out, List.pairwise_cons] at hpw
              exact Int.le_of_lt (hpw.1 q hq)
          case measure =>
            have := HX0.out
            have := HN.out
            simp [intOf]; omega
        · have e0 : ¬ (k : Int) < (P.length : Int) := by omega
          have HE : Hid (m = slB fn span time P) := Lib.hid (by rw [← HM.out, List.drop_of_length_le (by omega)]; simp [ptsB])
          go_wp2_with fail
          go_ret
          rw [← HE.out]
          exact ⟨A', c', rfl, HRd.out, HBw.out⟩
end Go.Proofs.Ytbhkgnhgecchcaa
