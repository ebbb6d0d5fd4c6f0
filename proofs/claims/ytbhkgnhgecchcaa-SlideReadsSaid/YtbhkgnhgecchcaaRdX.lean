/- The reference's Read. -/
import Derived.Test.YtbhkgnhgecchcaaRdS
import Derived.Test.YtbhkgnhgecchcaaRrc
import Derived.Test.YtbhkgnhgecchcaaRsQ
namespace Go.Proofs.Ytbhkgnhgecchcaa
open Go.RowKit
set_option maxRecDepth 100000 in
theorem rr_end14 {F : Nat → Prop} (r : Nat) (s : Rst) (w : World) (h : RefW w F r s) : Calls Try.prog 55 #[.pointer (some ⟨r, 0, none⟩)] w fun e w' => e = .returned (.int .i64 (rsEnd s)) ∧ Below w.heap.size w w' := by
  obtain ⟨A, c, B, I, h1, h2, h3, h4, h5, h6, h7⟩ := h
  obtain ⟨l, er⟩ := s
  simp only at h1 h3
  have H1 := Lib.hid h1
  have hl : l.length = B.length - I := by rw [h3, List.length_drop]
  by_cases he : er = 0
  · subst he
    by_cases hi : (I : Int) < (B.length : Int)
    · have HS : Hid (rsEnd (l, 0) = 4) := Lib.hid (by unfold rsEnd; rw [if_neg (by simp), if_pos (by simp only; omega)])
      rw [HS.out]
      clear h1 h3 h5 h6 h7 hl h4
      go_enter Try.func55, Try.ntmps55
      go_wp2_with fail
      refine wp_region_here 17 [(0, false), (1, false), (2, false), (3, false), (4, false), (5, false), (6, false), (7, false), (8, false), (9, false), (10, false), (11, false), (12, false), (13, false), (14, false), (15, false), (16, false)] (fun _ => .cells #[] 0) (by kernel_rfl) (by kernel_rfl) ?_
      repeat (first | (refine wpP_q rfl rfl rfl ?_; apply Exists.intro; refine ⟨fun w' hw' => ?_, fun K hK => ?_⟩; (focus ((have q0 := keepB H1.out hw'; have j0 := cellAt (o := 0) q0 rfl; have j1 := cellAt (o := 1) q0 rfl; have j2 := cellAt (o := 2) q0 rfl; clear q0); go_simp; first | exact quiet_value | fail)); simp only [Act.put, List.setIfInBounds_toArray, List.set_cons_zero, List.set_cons_succ]; refine hK.out _ ?_; clear hK K) | (refine wpP_skip rfl rfl rfl (fun K hK => ?_); simp only [Act.put, List.setIfInBounds_toArray, List.set_cons_zero, List.set_cons_succ]; refine hK.out _ ?_; clear hK K))
      refine wpP_nil ?_
      intro w1 hb1
      have HB := Lib.hid hb1
      have k2 := cellAt (o := 2) (keepB H1.out hb1) rfl
      clear hb1
      try simp only [List.drop_succ_cons, List.drop_zero]
      go_wp2_with fail
      go_ret
      exact ⟨rfl, HB.out⟩
    · have HS : Hid (rsEnd (l, 0) = 0) := Lib.hid (by unfold rsEnd; rw [if_neg (by simp), if_neg (by simp only; omega)])
      rw [HS.out]
      clear h1 h3 h5 h6 h7 hl h4
      go_enter Try.func55, Try.ntmps55
      go_wp2_with fail
      refine wp_region_here 17 [(0, false), (1, false), (2, false), (3, false), (4, false), (5, false), (6, false), (7, false), (8, false), (9, false), (10, false), (11, false), (12, false), (13, false), (14, false), (15, false), (16, false)] (fun _ => .cells #[] 0) (by kernel_rfl) (by kernel_rfl) ?_
      repeat (first | (refine wpP_q rfl rfl rfl ?_; apply Exists.intro; refine ⟨fun w' hw' => ?_, fun K hK => ?_⟩; (focus ((have q0 := keepB H1.out hw'; have j0 := cellAt (o := 0) q0 rfl; have j1 := cellAt (o := 1) q0 rfl; have j2 := cellAt (o := 2) q0 rfl; clear q0); go_simp; first | exact quiet_value | fail)); simp only [Act.put, List.setIfInBounds_toArray, List.set_cons_zero, List.set_cons_succ]; refine hK.out _ ?_; clear hK K) | (refine wpP_skip rfl rfl rfl (fun K hK => ?_); simp only [Act.put, List.setIfInBounds_toArray, List.set_cons_zero, List.set_cons_succ]; refine hK.out _ ?_; clear hK K))
      refine wpP_nil ?_
      intro w1 hb1
      have HB := Lib.hid hb1
      have k2 := cellAt (o := 2) (keepB H1.out hb1) rfl
      clear hb1
      try simp only [List.drop_succ_cons, List.drop_zero]
      go_wp2_with fail
      go_ret
      exact ⟨rfl, HB.out⟩
  · have HS : Hid (rsEnd (l, er) = er) := Lib.hid (by unfold rsEnd; rw [if_pos (by exact he)])
    rw [HS.out]
    have e1 : (er == 0) = false := beq_eq_false_iff_ne.2 he
    clear h1 h3 h5 h6 h7 hl h4 he
    go_enter Try.func55, Try.ntmps55
    go_wp2_with fail
    refine wp_region_here 17 [(0, false), (1, false), (2, false), (3, false), (4, false), (5, false), (6, false), (7, false), (8, false), (9, false), (10, false), (11, false), (12, false), (13, false), (14, false), (15, false), (16, false)] (fun _ => .cells #[] 0) (by kernel_rfl) (by kernel_rfl) ?_
    repeat (first | (refine wpP_q rfl rfl rfl ?_; apply Exists.intro; refine ⟨fun w' hw' => ?_, fun K hK => ?_⟩; (focus ((have q0 := keepB H1.out hw'; have j0 := cellAt (o := 0) q0 rfl; have j1 := cellAt (o := 1) q0 rfl; have j2 := cellAt (o := 2) q0 rfl; clear q0); go_simp; first | exact quiet_value | fail)); simp only [Act.put, List.setIfInBounds_toArray, List.set_cons_zero, List.set_cons_succ]; refine hK.out _ ?_; clear hK K) | (refine wpP_skip rfl rfl rfl (fun K hK => ?_); simp only [Act.put, List.setIfInBounds_toArray, List.set_cons_zero, List.set_cons_succ]; refine hK.out _ ?_; clear hK K))
    refine wpP_nil ?_
    intro w1 hb1
    have HB := Lib.hid hb1
    have k2 := cellAt (o := 2) (keepB H1.out hb1) rfl
    clear hb1
    try simp only [List.drop_succ_cons, List.drop_zero]
    go_wp2_with fail
    go_ret
    exact ⟨rfl, HB.out⟩
/-- A reader and a slide that is being read, apart: the reference's. -/
def RfS (w : World) (B r : Nat) (rs : Rst) (s : Nat) (fn span : Int) (Q : List Pt) : Prop := ∃ FR FS : Nat → Prop, RefW w FR r rs ∧ (∀ k, FR k → B ≤ k ∧ k < w.heap.size) ∧ RefsW w FS s fn span 0 Q ∧ (∀ k, FS k → B ≤ k ∧ k < w.heap.size) ∧ ∀ k, ¬ (FR k ∧ FS k)
theorem RefW.fr {w : World} {F : Nat → Prop} {r : Nat} {s : Rst} (h : RefW w F r s) : F r := by obtain ⟨A, c, B, I, h1, h2, h3, h4, h5, h6, h7⟩ := h; exact h6
theorem RefW.ecell {w : World} {F : Nat → Prop} {r : Nat} {s : Rst} (h : RefW w F r s) : w.cell? ⟨r, 2, none⟩ = some (.int .i64 s.2) := by obtain ⟨A, c, B, I, h1, _⟩ := h; exact cellAt (o := 2) h1 rfl
section
variable {w w' : World} {B r s : Nat} {rs rs' : Rst} {fn span : Int} {Q : List Pt}
theorem RfS.rdr {f : Nat} {args : Array Value} {v : Value} (h : RfS w B r rs s fn span Q) (hop : ∀ F, RefW w F r rs → Calls Try.prog f args w (RrP F r rs' v w)) : Calls Try.prog f args w fun e w' => e = .returned v ∧ RfS w' B r rs' s fn span Q ∧ Below B w w' := by
  obtain ⟨FR, FS, h1, h2, h3, h4, h5⟩ := h
  refine (hop FR h1).mono fun e w' ⟨he, k1, ho⟩ => ⟨he, ⟨FR, FS, k1, fun k hk => ⟨(h2 k hk).1, Nat.lt_of_lt_of_le (h2 k hk).2 ho.size⟩, h3.keep ho (fun k hk _ e => h5 k ⟨e ▸ h1.fr, hk⟩), fun k hk => ⟨(h4 k hk).1, Nat.lt_of_lt_of_le (h4 k hk).2 ho.size⟩, h5⟩, ?_⟩
  exact ho.below (fun k e => e ▸ (h2 r h1.fr).1) (Nat.le_trans (h2 r h1.fr).1 (Nat.le_of_lt h1.lt))
theorem RfS.below (h : RfS w B r rs s fn span Q) (hb : Below w.heap.size w w') : RfS w' B r rs s fn span Q := by
  obtain ⟨FR, FS, h1, h2, h3, h4, h5⟩ := h
  exact ⟨FR, FS, h1.below hb, fun k hk => ⟨(h2 k hk).1, Nat.lt_of_lt_of_le (h2 k hk).2 hb.size⟩, h3.below hb, fun k hk => ⟨(h4 k hk).1, Nat.lt_of_lt_of_le (h4 k hk).2 hb.size⟩, h5⟩
theorem RfS.ecell (h : RfS w B r rs s fn span Q) : w.cell? ⟨r, 2, none⟩ = some (.int .i64 rs.2) := by
  obtain ⟨FR, FS, h1, _⟩ := h
  exact h1.ecell
end
/-- What the reference's reading of a slide leaves. -/
def RdRef (o : Option RdS) (w : World) (e : Ending) (w' : World) : Prop :=
  Below w.heap.size w w' ∧ ((o = none ∧ e = .returned (.tuple #[.pointer none, .int .i64 4])) ∨ ∃ fn span t P s F, o = some (fn, span, t, P) ∧ e = .returned (.tuple #[.pointer (some ⟨s, 0, none⟩), .int .i64 0]) ∧ RsB w' w.heap.size s fn span ⟨t, P, P.length⟩ F)
set_option maxHeartbeats 8000000 in
set_option maxRecDepth 100000 in
theorem rfread_any (A : Option Addr) (c : Nat) (b : List UInt8) (w : World) (hp : Rd w A b) (hl : b.length ≤ 1000000) : Calls Try.prog 29 #[.slice A b.length c] w (RdRef (rdSl 2147483647 b) w) := by
  have CN := Lib.hid (rnew_any A c b w hp (by omega))
  have HL := Lib.hid hl
  obtain ⟨x1, s1, E1⟩ : ∃ x s, rsNum (b, 0) = (x, s) := ⟨_, _, rfl⟩
  obtain ⟨x2, s2, E2⟩ : ∃ x s, rsNum s1 = (x, s) := ⟨_, _, rfl⟩
  obtain ⟨x3, s3, E3⟩ : ∃ x s, rsNum s2 = (x, s) := ⟨_, _, rfl⟩
  obtain ⟨x4, s4, E4⟩ : ∃ x s, rsCount ((2147483647 : Nat) : Int) s3 = (x, s) := ⟨_, _, rfl⟩
  obtain ⟨o, ho⟩ : ∃ o, rdSl 2147483647 b = o := ⟨_, rfl⟩
  have HSP : Hid (o = if ¬ okNew x1 x2 ∨ 1099511627776 < x3 ∨ s4.2 ≠ 0 then none else rdTail x1 x2 x3 (rdPts x3 ((x3 : Int) - x2) x4 0 s4)) := Lib.hid (by rw [← ho]; unfold rdSl; rw [E1, E2, E3, E4])
  have N1 : Hid (N64 x1) := Lib.hid (by have := rsNum_64 (b, 0); rwa [E1] at this)
  have N2 : Hid (N64 x2) := Lib.hid (by have := rsNum_64 s1; rwa [E2] at this)
  have N3 : Hid (N64 x3) := Lib.hid (by have := rsNum_64 s2; rwa [E3] at this)
  have X4 : Hid (x4 ≤ 2147483647) := Lib.hid (by
    have h := rsCount_eq 2147483647 s3
    rw [E4] at h
    split at h
    · simp only [Prod.mk.injEq] at h; omega
    · split at h
      · simp only [Prod.mk.injEq] at h; omega
      · have h9 := congrArg (·.1) h; simp only at h9; omega)
  have G1 := Lib.hid E1
  have G2 := Lib.hid E2
  have G3 := Lib.hid E3
  have G4 := Lib.hid E4
  rw [ho]
  clear hp hl E1 E2 E3 E4 ho
  go_enter Try.func29, Try.ntmps29
  go_wp2_with fail
  refine CN.out.mono ?_
  rintro e w1 ⟨r, rfl, hr, hb⟩
  obtain ⟨FR, hFR, hR⟩ : ∃ FR : Nat → Prop, (∀ k, FR k → w.heap.size ≤ k ∧ k < w1.heap.size) ∧ RefW w1 FR r (b, 0) := ⟨_, fun k hk => hk, hr.old⟩
  have HFR := Lib.hid hFR
  have HR := Lib.hid hR
  have HB := Lib.hid hb
  have HZ2 := Lib.hid (Nat.le_refl w1.heap.size)
  clear hr hb hFR hR
  unfold ptrTo
  go_wp2_with fail
  have C1 := Lib.hid (rr_number r (b, 0) _ HR.out)
  rw [G1.out] at C1
  refine C1.out.mono ?_
  rintro e w2 ⟨rfl, hR, ho⟩
  replace HR := Lib.hid hR
  replace HB := Lib.hid (HB.out.trans (ho.below (fun k e => e ▸ (HFR.out r HR.out.fr).1) HB.out.size))
  replace HZ2 := Lib.hid (Nat.le_trans HZ2.out ho.size)
  clear hR ho C1
  unfold vU
  go_wp2_with fail
  refine (rsmall_any x1 100 N1.out (by omega) _).mono ?_
  rintro e w3 ⟨rfl, rfl⟩
  go_wp2_with fail
  have C1 := Lib.hid (rr_number r s1 _ HR.out)
  rw [G2.out] at C1
  refine C1.out.mono ?_
  rintro e w2 ⟨rfl, hR, ho⟩
  replace HR := Lib.hid hR
  replace HB := Lib.hid (HB.out.trans (ho.below (fun k e => e ▸ (HFR.out r HR.out.fr).1) HB.out.size))
  replace HZ2 := Lib.hid (Nat.le_trans HZ2.out ho.size)
  clear hR ho C1
  unfold vU
  go_wp2_with fail
  refine (rsmall_any x2 1073741824 N2.out (by omega) _).mono ?_
  rintro e w3 ⟨rfl, rfl⟩
  have hcase : ∃ f g : Int, ((cutN (100 + 1) x1 : Nat) : Int) = f ∧ ((cutN (1073741824 + 1) x2 : Nat) : Int) = g ∧ (okNew f g ↔ okNew x1 x2) ∧ (okNew x1 x2 → f = x1 ∧ g = x2) := by
    refine ⟨_, _, rfl, rfl, ?_, fun h => ?_⟩
    · unfold okNew cutN
      constructor
      · intro h; split at h <;> split at h <;> omega
      · intro h; split <;> split <;> omega
    · unfold okNew at h; unfold cutN
      constructor
      · split <;> omega
      · split <;> omega
  obtain ⟨f, g, hf, hg, hok, hx⟩ := hcase
  rw [hg, hf]
  have HOK := Lib.hid hok
  have HXX := Lib.hid hx
  clear hf hg hok hx
  go_wp2_with fail
  refine (rsnew_any f g _).mono ?_
  rintro e w6 (⟨hok, s, G, rfl, hs, hb⟩ | ⟨hno, rfl, hb⟩)
  case inr =>
    replace HR := Lib.hid (HR.out.below hb)
    replace HB := Lib.hid (HB.out.trans (hb.mono HB.out.size))
    replace HZ2 := Lib.hid (Nat.le_trans HZ2.out hb.size)
    have HO3 : Hid (o = none) := Lib.hid (by rw [HSP.out, if_pos (.inl (fun h => hno (HOK.out.2 h)))])
    clear hb hno
    go_wp2_with fail
    have C1 := Lib.hid (rr_number r s2 _ HR.out)
    rw [G3.out] at C1
    refine C1.out.mono ?_
    rintro e w2 ⟨rfl, hR, ho⟩
    replace HR := Lib.hid hR
    replace HB := Lib.hid (HB.out.trans (ho.below (fun k e => e ▸ (HFR.out r HR.out.fr).1) HB.out.size))
    replace HZ2 := Lib.hid (Nat.le_trans HZ2.out ho.size)
    clear hR ho C1
    unfold vU
    go_wp2_with fail
    refine (rsmall_any x3 1099511627776 N3.out (by omega) _).mono ?_
    rintro e w3 ⟨rfl, rfl⟩
    go_wp2_with fail
    have C1 := Lib.hid (rr_count r s3 2147483647 (by omega) _ HR.out)
    rw [G4.out] at C1
    refine C1.out.mono ?_
    rintro e w7 ⟨rfl, hR, ho⟩
    have HBW := Lib.hid (HB.out.trans (ho.below (fun k e => e ▸ (HFR.out r HR.out.fr).1) HB.out.size))
    clear hR ho C1
    go_wp2_with fail
    refine bodyPost_ret (v := .tuple #[.pointer none, .int .i64 4]) (by simp only [results, Try.results29]; go_simp) rfl ⟨HBW.out, .inl ⟨HO3.out, rfl⟩⟩
  case inl =>
    obtain ⟨hf1, hg1⟩ := HXX.out (HOK.out.1 hok)
    subst hf1 hg1
    have HRS : Hid (RfS w6 w.heap.size r s2 s x1 x2 []) := Lib.hid ⟨FR, G, HR.out.below hb, fun k hk => ⟨(HFR.out k hk).1, by have := (HFR.out k hk).2; have := HZ2.out; have := hb.size; omega⟩, hs.sl, fun k hk => ⟨by have := HB.out.size; have := hs.lo k hk; omega, hs.hi k hk⟩, fun k hk => by
      have := (HFR.out k hk.1).2; have := HZ2.out; have := hs.lo k hk.2; omega⟩
    have HBW := Lib.hid (HB.out.trans (hb.mono HB.out.size))
    have HKN := Lib.hid (HOK.out.1 hok)
    clear hs hb hok HR HFR HB HZ2 HOK HXX
    have CN3 := Lib.hid (HRS.out.rdr (f := 52) (args := #[ptrTo r]) (rs' := s3) (v := vU x3) (fun F hF => by have := rr_number r s2 w6 hF; rw [G3.out] at this; exact this))
    have CN4 := Lib.hid (fun W (h : RfS W w.heap.size r s3 s x1 x2 []) => h.rdr (f := 53) (args := #[ptrTo r, .int .i64 ((2147483647 : Nat) : Int)]) (rs' := s4) (v := .int .i64 (x4 : Int)) (fun F hF => by have := rr_count r s3 2147483647 (by omega) W hF; rw [G4.out] at this; exact this))
    unfold ptrTo vU at *
    go_wp2_with fail
    refine CN3.out.mono ?_
    rintro e w7 ⟨rfl, hr, hb⟩
    have HR3 := Lib.hid hr
    replace HBW := Lib.hid (HBW.out.trans hb)
    clear hr hb CN3 HRS
    go_wp2_with fail
    refine (rsmall_any x3 1099511627776 N3.out (by omega) _).mono ?_
    rintro e w8 ⟨rfl, rfl⟩
    go_wp2_with fail
    refine (CN4.out _ HR3.out).mono ?_
    rintro e w9 ⟨rfl, hr, hb⟩
    have HRS := Lib.hid hr
    replace HBW := Lib.hid (HBW.out.trans hb)
    clear hr hb CN4 HR3 G1 G2 G3 G4 N1 N2 N3
    have ec := HRS.out.ecell
    by_cases he : s4.2 = 0
    case neg =>
      have HO3 : Hid (o = none) := Lib.hid (by rw [HSP.out, if_pos (.inr (.inr he))])
      have he2 : (s4.2 != 0) = true := by rw [bne_iff_ne]; exact he
      clear he
      go_wp2_with fail
      refine bodyPost_ret (v := .tuple #[.pointer none, .int .i64 4]) (by simp only [results, Try.results29]; go_simp) rfl ⟨HBW.out, .inl ⟨HO3.out, rfl⟩⟩
    have HE := Lib.hid he
    rw [he] at ec
    by_cases h3 : 1099511627776 < x3
    case pos =>
      obtain ⟨τ, hτ, hτ2⟩ : ∃ τ : Int, ((cutN 1099511627777 x3 : Nat) : Int) = τ ∧ 1099511627776 < τ := ⟨_, rfl, by unfold cutN; split <;> omega⟩
      have HO3 : Hid (o = none) := Lib.hid (by rw [HSP.out, if_pos (.inr (.inl h3))])
      rw [hτ]
      clear hτ h3 he
      go_wp2_with fail
      refine bodyPost_ret (v := .tuple #[.pointer none, .int .i64 4]) (by simp only [results, Try.results29]; go_simp) rfl ⟨HBW.out, .inl ⟨HO3.out, rfl⟩⟩
    have hcx : cutN 1099511627777 x3 = x3 := if_pos (by omega)
    have ht3 : ¬ (1099511627776 : Int) < (x3 : Int) := by omega
    rw [hcx]
    have HX3 : Hid (x3 ≤ 1099511627776) := Lib.hid (by omega)
    have HO : Hid (o = rdTail x1 x2 x3 (rdPts x3 ((x3 : Int) - x2) x4 0 s4)) := Lib.hid (by rw [HSP.out, if_neg (by simp only [not_or, Decidable.not_not, ne_eq]; exact ⟨HKN.out, h3, he⟩)])
    clear hcx h3 he HSP
    go_wp2_with fail
    clear ht3 ec
    go_loopw [10, 11] (fun y av wr => ∃ (i j : Nat) (a : Int) (Q : List Pt) (rs : Rst), i + j = x4 ∧ y = .int .i64 j ∧ av = .int .i64 a ∧ Hid (0 ≤ a ∧ a ≤ x3 ∧ Sane Q ∧ (∀ p ∈ Q, p.1 ≤ a) ∧ Q.length = i) ∧ Hid ((rs.2 = 0 ∧ rdPts x3 ((x3 : Int) - x2) x4 0 s4 = (rdPts x3 ((x3 : Int) - x2) j a rs).map fun q => (Q ++ q.1, q.2)) ∨ (rs.2 ≠ 0 ∧ o = none)) ∧ Hid (RfS wr w.heap.size r rs s x1 x2 Q) ∧ Hid (Below w.heap.size w wr)) (fun y _ _ => (intOf y).toNat)
    case atStart => exact ⟨0, x4, 0, [], s4, by omega, rfl, rfl, Lib.hid ⟨by omega, by omega, ⟨List.Pairwise.nil, by simp, by simp, by simp⟩, by simp, rfl⟩, Lib.hid (.inl ⟨HE.out, by cases rdPts x3 ((x3 : Int) - x2) x4 0 s4 <;> simp⟩), HRS, HBW⟩
    case round =>
      obtain ⟨i, j, a, Q, rs, hij, rfl, rfl, HF, HP, HRW, HBW⟩ := hrel
      clear HRS
      have ec := HRW.out.ecell
      by_cases hx : j = 0 ∨ rs.2 ≠ 0
      case pos =>
        have HO2 : Hid (o = if rsEnd rs ≠ 0 then none else some ((x1 : Int), (x2 : Int), (x3 : Int), Q)) := Lib.hid (by
          rcases HP.out with ⟨h1, h2⟩ | ⟨h1, h2⟩
          · rcases hx with hx | hx
            · subst hx
              rw [HO.out, h2]; simp [rdPts, rdTail]
            · exact absurd h1 hx
          · rw [h2, if_pos (by unfold rsEnd; rw [if_pos h1]; exact h1)])
        obtain ⟨GR, GS, g1, g2, ⟨hs, lv, k1, k2⟩, g4, g5⟩ := HRW.out
        have m2 := cellAt (o := 3) k1 rfl
        have f2 := freeAt 3 k1
        have hoS := Only.set wr s 3 (.int .i64 (x3 : Int))
        have HSL : Hid (RsB (wr.setCell ⟨s, 3, none⟩ (.int .i64 (x3 : Int))) w.heap.size s x1 x2 ⟨x3, Q, Q.length⟩ GS) := Lib.hid ⟨⟨hs, lv, by rw [setCell_get k1]; rfl, k2.keep hoS (fun k hk _ e => hk.2 e)⟩, fun k hk => (g4 k hk).1, fun k hk => Nat.lt_of_lt_of_le (g4 k hk).2 hoS.size⟩
        have HBF : Hid (Below w.heap.size w (wr.setCell ⟨s, 3, none⟩ (.int .i64 (x3 : Int)))) := Lib.hid (HBW.out.setCell (g4 s hs).1 _)
        have CE := Lib.hid (rr_end14 r rs _ (g1.keep hoS (fun k hk _ e => g5 k ⟨hk, e ▸ hs⟩)))
        clear HO HP k1 k2 g1 g2 g4 g5 hoS hs
        have hgd : (0 : Int) < (j : Int) ∧ (rs.2 == 0) = false ∨ ¬ (0 : Int) < (j : Int) := by
          rcases hx with hx | hx
          · exact .inr (by omega)
          · by_cases hj : (0 : Int) < (j : Int)
            · exact .inl ⟨hj, beq_eq_false_iff_ne.2 hx⟩
            · exact .inr hj
        clear hx
        rcases hgd with ⟨hj, hE0⟩ | hj
        all_goals
          go_wp2_with fail
          refine CE.out.mono ?_
          rintro e w8 ⟨rfl, hb8⟩
          replace HSL := Lib.hid (HSL.out.below hb8)
          replace HBF := Lib.hid (HBF.out.trans (hb8.mono HBF.out.size))
          clear hb8 m2 f2 ec
          by_cases hz : rsEnd rs = 0
          case neg =>
            have hz2 : (rsEnd rs != 0) = true := by rw [bne_iff_ne]; exact hz
            have HO3 : Hid (o = none) := Lib.hid (by rw [HO2.out, if_pos hz])
            clear hz HO2
            go_wp2_with fail
            refine bodyPost_ret (v := .tuple #[.pointer none, .int .i64 4]) (by simp only [results, Try.results29]; go_simp) rfl ⟨HBF.out, .inl ⟨HO3.out, rfl⟩⟩
          case pos =>
            have HO3 : Hid (o = some ((x1 : Int), (x2 : Int), (x3 : Int), Q)) := Lib.hid (by rw [HO2.out, if_neg (by simp [hz])])
            rw [hz]
            clear hz HO2
            go_wp2_with fail
            refine bodyPost_ret (v := .tuple #[.pointer (some ⟨s, 0, none⟩), .int .i64 0]) (by simp only [results, Try.results29]; go_simp) rfl ⟨HBF.out, .inr ⟨_, _, _, _, _, _, HO3.out, rfl, HSL.out⟩⟩
      case neg =>
        obtain ⟨j, rfl⟩ : ∃ j', j = j' + 1 := ⟨j - 1, by omega⟩
        have hrs : rs.2 = 0 := by
          rcases Decidable.em (rs.2 = 0) with h | h
          · exact h
          · exact absurd (.inr h) hx
        have HP1 : Hid (rdPts x3 ((x3 : Int) - x2) x4 0 s4 = (rdPts x3 ((x3 : Int) - x2) (j + 1) a rs).map fun q => (Q ++ q.1, q.2)) := Lib.hid (by
          rcases HP.out with h | h
          · exact h.2
          · exact absurd hrs h.1)
        obtain ⟨v1, rs1, e1⟩ : ∃ v s, rsNum rs = (v, s) := ⟨_, _, rfl⟩
        obtain ⟨x, rs2, e2⟩ : ∃ v s, rsSigned rs1 = (v, s) := ⟨_, _, rfl⟩
        have HIX : Hid (In64 x) := Lib.hid (by
          have : In64 (rsSigned rs1).1 := unzz_in (rsNum_64 _)
          rwa [e2] at this)
        have HV1 : Hid (N64 v1) := Lib.hid (by have := rsNum_64 rs; rwa [e1] at this)
        obtain ⟨d, hd, hd2⟩ : ∃ d : Nat, cutN (1099511627776 + 1) v1 = d ∧ d ≤ 1099511627777 := ⟨_, rfl, by unfold cutN; split <;> omega⟩
        have HPS : Hid (rdPts x3 ((x3 : Int) - x2) (j + 1) a rs = if rs2.2 ≠ 0 ∨ d < 1 ∨ (x3 : Int) < a + d ∨ a + d ≤ (x3 : Int) - x2 then none else (rdPts x3 ((x3 : Int) - x2) j (a + d) rs2).map fun q => ((a + d, x) :: q.1, q.2)) := Lib.hid (by
          rw [rdPts, e1]
          have hd' : cutN 1099511627777 v1 = d := hd
          simp only [e2, hd'])
        have CS := Lib.hid (HRW.out.rdr (f := 52) (args := #[ptrTo r]) (rs' := rs1) (v := vU v1) (fun F hF => by have := rr_number r rs _ hF; rw [e1] at this; exact this))
        have CM := Lib.hid (fun W => rsmall_any v1 1099511627776 HV1.out (by omega) W)
        rw [hd] at CM
        have CG := Lib.hid (fun W (h : RfS W w.heap.size r rs1 s x1 x2 Q) => h.rdr (f := 54) (args := #[ptrTo r]) (rs' := rs2) (v := .int .i64 x) (fun F hF => by have := rr_signed r rs1 W hF; rw [e2] at this; exact this))
        have HD := Lib.hid hd2
        unfold ptrTo at CS CG
        unfold vU at CS
        obtain ⟨u, hu⟩ : ∃ u, u = a + (d : Int) := ⟨_, rfl⟩
        have hw : IntKind.i64.wrap (a + (d : Int)) = u := by have := HF.out; have := HD.out; have := HX3.out; rw [IntKind.wrap_i64]; omega
        have hw2 : IntKind.i64.wrap ((x3 : Int) - (x2 : Int)) = (x3 : Int) - (x2 : Int) := by have h1 := HX3.out; have h2 := HKN.out; unfold okNew at h2; rw [IntKind.wrap_i64]; omega
        rw [← hu] at HPS
        have HU := Lib.hid hu
        have hj : (0 : Int) < (j : Int) + 1 := by omega
        rw [hrs] at ec
        clear hd hd2 e1 e2 hu hrs hx HP
        go_wp2_with fail
        refine CS.out.mono ?_
        rintro e w8 ⟨rfl, hr, hb⟩
        replace HRW := Lib.hid hr
        replace HBW := Lib.hid (HBW.out.trans hb)
        clear hr hb ec CS
        go_wp2_with fail
        refine (CM.out _).mono ?_
        rintro e w7 ⟨rfl, rfl⟩
        go_wp2_with fail
        refine (CG.out _ HRW.out).mono ?_
        rintro e w9 ⟨rfl, hr, hb⟩
        replace HRW := Lib.hid hr
        replace HBW := Lib.hid (HBW.out.trans hb)
        clear hr hb CG CM
        by_cases c2 : (d : Int) < 1
        case pos =>
          have HO3 : Hid (o = none) := Lib.hid (by rw [HO.out, HP1.out, HPS.out, if_pos (.inr (.inl (by omega)))]; rfl)
          go_wp2_with fail
          refine bodyPost_ret (v := .tuple #[.pointer none, .int .i64 4]) (by simp only [results, Try.results29]; go_simp) rfl ⟨HBW.out, .inl ⟨HO3.out, rfl⟩⟩
        by_cases c3 : (x3 : Int) < u
        case pos =>
          have HO3 : Hid (o = none) := Lib.hid (by rw [HO.out, HP1.out, HPS.out, if_pos (.inr (.inr (.inl c3)))]; rfl)
          go_wp2_with fail
          refine bodyPost_ret (v := .tuple #[.pointer none, .int .i64 4]) (by simp only [results, Try.results29]; go_simp) rfl ⟨HBW.out, .inl ⟨HO3.out, rfl⟩⟩
        by_cases c4 : u ≤ (x3 : Int) - (x2 : Int)
        case pos =>
          have HO3 : Hid (o = none) := Lib.hid (by rw [HO.out, HP1.out, HPS.out, if_pos (.inr (.inr (.inr c4)))]; rfl)
          go_wp2_with fail
          refine bodyPost_ret (v := .tuple #[.pointer none, .int .i64 4]) (by simp only [results, Try.results29]; go_simp) rfl ⟨HBW.out, .inl ⟨HO3.out, rfl⟩⟩
        have HPN : Hid ((rs2.2 = 0 ∧ rdPts x3 ((x3 : Int) - x2) x4 0 s4 = (rdPts x3 ((x3 : Int) - x2) j u rs2).map fun q => ((Q ++ [(u, x)]) ++ q.1, q.2)) ∨ (rs2.2 ≠ 0 ∧ o = none)) := Lib.hid (by
          rcases Decidable.em (rs2.2 = 0) with c1 | c1
          · refine .inl ⟨c1, ?_⟩
            rw [HP1.out, HPS.out, if_neg (by simp only [not_or, Decidable.not_not, ne_eq]; exact ⟨c1, by omega, c3, c4⟩)]
            cases rdPts x3 ((x3 : Int) - x2) j u rs2 <;> simp
          · exact .inr ⟨c1, by rw [HO.out, HP1.out, HPS.out, if_pos (.inl c1)]; rfl⟩)
        have HFu : Hid (a < u ∧ u ≤ x3) := Lib.hid ⟨by have := HU.out; omega, by omega⟩
        clear HP1 HPS
        go_wp2_with fail
        obtain ⟨GR, GS, g1, g2, ⟨hs, lv, k1, k2⟩, g4, g5⟩ := HRW.out
        obtain ⟨A9, c9, rfl, _⟩ := k2.form
        have H1b := Lib.hid k1
        have H2b := Lib.hid k2
        have HFs := Lib.hid hs
        have HG1 := Lib.hid g1
        have HG2 := Lib.hid g2
        have HG4 := Lib.hid g4
        have HG5 := Lib.hid g5
        have HIJ := Lib.hid hij
        have HQi := Lib.hid HF.out.2.2.2.2
        have HLq : Hid (Q.length ≤ 2147483647) := Lib.hid (by have h1 := HQi.out; have h2 := HIJ.out; have h3 := X4.out; omega)
        have HSn : Hid (Sane (Q ++ [(u, x)])) := Lib.hid (HF.out.2.2.1.snoc HF.out.2.2.2.1 HFu.out.1 (by have h1 := HF.out.1; have h2 := HFu.out.1; omega) (by have h1 := HFu.out.2; have h2 := HX3.out; omega) HIX.out (by have := HLq.out; omega))
        have CO := Lib.hid (fun W => rof_any x W)
        obtain ⟨ip, hip, hz1, hz2, hz3⟩ := info_parts infoP
        have HIP := Lib.hid hip
        have HZ1 := Lib.hid hz1
        have HZ2 := Lib.hid hz2
        have HZ3 := Lib.hid hz3
        have hne : ¬ (Value.slice A9 Q.length c9).ownBlock = some s := fun e => (H2b.out.lt s e).1.2 rfl
        have HNS : Hid (∀ p ∈ [(s, Obj.cells #[.int .i64 x1, .int .i64 x2, .slice A9 Q.length c9, .int .i64 0] 50)], ¬ (Value.slice A9 Q.length c9).ownBlock = some p.1) := Lib.hid (fun p hp h => by
          simp only [List.mem_cons, List.not_mem_nil, or_false] at hp
          subst hp; exact hne h)
        have HFC : Hid (FC w9 (fun k => (Value.slice A9 Q.length c9).ownBlock = some k) [(s, Obj.cells #[.int .i64 x1, .int .i64 x2, .slice A9 Q.length c9, .int .i64 0] 50)] w9) := Lib.hid ⟨Only.refl _ _, fun p hp => by
          simp only [List.mem_cons, List.not_mem_nil, or_false] at hp
          subst hp; exact H1b.out⟩
        clear hne hip hz1 hz2 hz3 k1 k2 g1 g2 g4 g5 hs hw hw2 c2 c3 c4 hij hj
        refine wp_region_two 11 [(0, false), (1, false), (2, false), (3, false), (4, false), (5, false), (6, false), (7, false), (8, false), (9, true), (10, true)] [] [] rfl (FC w9 (fun k => (Value.slice A9 Q.length c9).ownBlock = some k) [(s, Obj.cells #[.int .i64 x1, .int .i64 x2, .slice A9 Q.length c9, .int .i64 0] 50)]) (D0 w9) (by kernel_rfl) (by kernel_rfl) FC.stab (D0.stab w9) (FC.stab _ _ HFC.out (Below.refl _ _).drew) (Below.refl _ _).drew ?_
        repeat (first | (refine wt_q rfl rfl ?_; apply Exists.intro; refine ⟨fun w' hw' => ?_, fun K hK => ?_⟩; (focus ((have q0 := hw'.get 0 rfl; have j3 := cellAt (o := 2) q0 rfl; clear q0); go_simp; first | exact quiet_value | with_reducible exact quiet_enter (CO.out _))); simp only [Act.put, List.setIfInBounds_toArray, List.set_cons_zero, List.set_cons_succ]; refine hK.out _ ?_; clear hK K) | (refine wt_skip rfl rfl (fun K hK => ?_); simp only [Act.put, List.setIfInBounds_toArray, List.set_cons_zero, List.set_cons_succ]; refine hK.out _ ?_; clear hK K))
        refine wt_bs 54 #[.int .i64 u, .int .i64 x, .bool false] rfl rfl rfl (fun w' hc hd => ?_) (fun K' hK' v => ?_)
        focus
          have HCd := Lib.hid (And.intro hc hd)
          clear hc hd
          go_simp
          exact bs_res HCd.out.1 HCd.out.2 rfl
        simp only [Act.put, List.setIfInBounds_toArray, List.set_cons_zero, List.set_cons_succ]
        refine hK'.out _ _ _ ?_
        clear hK' K'
        refine wt_ap 3 (Q.length + 1) (pcs Q ++ pc (u, x)) rfl rfl rfl (fun w' hc hd => ?_) (fun K' hK' v' => ?_)
        focus
          obtain ⟨u9, w3, hrun, hres⟩ := ap_run (P := Try.prog) 33 33 54 ip _ 3 24 undP HIP.out HZ1.out HZ2.out HZ3.out rfl H2b.out (fun _ => Iff.rfl) HNS.out rfl (fun u hu => pcs_one [(_, x)] u (by simpa [pcs, pc] using hu)) (by have := HLq.out; omega) (by omega) hc hd
          exact st_ap (.tmp 87) (.tmp 92) rfl rfl rfl hrun hres
        simp only [Act.put, List.setIfInBounds_toArray, List.set_cons_zero, List.set_cons_succ]
        refine hK'.out _ _ _ ?_
        clear hK' K'
        refine wt_nil ?_
        rintro w3 ⟨⟨hc3, _⟩, _⟩ ⟨w2, hb2, hrow3, ho3⟩
        obtain ⟨g3, o3, c3, rfl, hj1, hj2, hj3⟩ := hrow3.ad (by omega)
        clear hj1 hj2 hj3
        have q0 := hc3.get 0 rfl
        have j3 := cellAt (o := 2) q0 rfl
        have f3 := freeAt 2 q0
        have hAp := RefsW.appended HFs.out q0 H2b.out (only_lt H1b.out) hb2 hrow3 ho3
        have H5 := Lib.hid hAp.1
        have H6 := Lib.hid hAp.2
        clear hrow3 ho3 hc3 q0 hb2 hAp
        try simp only [List.drop_succ_cons, List.drop_zero]
        have hj9 : (j : Int) + 1 - 1 = (j : Int) := by omega
        have hj8 : (j : Int) ≤ 2147483647 := by have h1 := HIJ.out; have h2 := X4.out; omega
        go_wp2_with fail
        clear j3 f3
        generalize (World.setCell w3 _ _) = W9 at *
        have HRN : Hid (RfS W9 w.heap.size r rs2 s x1 x2 (Q ++ [(u, x)])) := Lib.hid ⟨GR, fun k => (GS k ∨ w9.heap.size ≤ k) ∧ k < W9.heap.size, HG1.out.keep H6.out (fun k hk _ h => HG5.out k ⟨hk, h⟩), fun k hk => ⟨(HG2.out k hk).1, Nat.lt_of_lt_of_le (HG2.out k hk).2 H6.out.size⟩, H5.out.weak (fun _ hk h => ⟨h, hk⟩), fun k hk => ⟨hk.1.elim (fun h => (HG4.out k h).1) (Nat.le_trans HBW.out.size), hk.2⟩, fun k hk => by
          rcases hk.2.1 with h | h
          · exact HG5.out k ⟨hk.1, h⟩
          · have := (HG2.out k hk.1).2; omega⟩
        have HBN : Hid (Below w.heap.size w W9) := Lib.hid (HBW.out.trans (H6.out.below (fun k h => (HG4.out k h).1) HBW.out.size))
        go_roundw
        case rel => exact ⟨i + 1, j, u, Q ++ [(u, x)], rs2, by have := HIJ.out; omega, by go_num, rfl, Lib.hid ⟨by have h1 := HF.out.1; have h2 := HFu.out.1; omega, HFu.out.2, HSn.out, fun p hp => by
          rcases List.mem_append.1 hp with hp | hp
          · have h1 := HF.out.2.2.2.1 p hp; have h2 := HFu.out.1; omega
          · simp only [List.mem_singleton] at hp; subst hp; exact Int.le_refl _, by rw [List.length_append, HQi.out]; rfl⟩, HPN, HRN, HBN⟩
        case measure => simp [intOf]
end Go.Proofs.Ytbhkgnhgecchcaa
