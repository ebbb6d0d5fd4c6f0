/- slide.Read. -/
import Derived.Test.YtbhkgnhgecchcaaRdS
import Derived.Test.YtbhkgnhgecchcaaClo
import Derived.Test.YtbhkgnhgecchcaaSlR
namespace Go.Proofs.Ytbhkgnhgecchcaa
open Go.RowKit
/-- A reader and a slide that is being read, apart. -/
def RSl (w : World) (B r : Nat) (rs : Rst) (s : Nat) (fn span : Int) (Q : List Pt) (K : Nat) : Prop := ∃ FR FS : Nat → Prop, RdrW w FR r rs ∧ (∀ k, FR k → B ≤ k ∧ k < w.heap.size) ∧ SlideW w FS s fn span 0 Q K ∧ (∀ k, FS k → B ≤ k ∧ k < w.heap.size) ∧ ∀ k, ¬ (FR k ∧ FS k)
theorem RdrW.fr {w : World} {F : Nat → Prop} {r : Nat} {s : Rst} (h : RdrW w F r s) : F r := by obtain ⟨A, c, h1, h2, h3, h4, h5, h6, h7⟩ := h; exact h6
section
variable {w w' : World} {B r s K : Nat} {rs rs' : Rst} {fn span : Int} {Q : List Pt}
theorem RSl.rdr {f : Nat} {args : Array Value} {v : Value} (h : RSl w B r rs s fn span Q K) (hop : ∀ F, RdrW w F r rs → Calls Try.prog f args w (RdP1 F r rs' v w)) : Calls Try.prog f args w fun e w' => e = .returned v ∧ RSl w' B r rs' s fn span Q K ∧ Below B w w' := by
  obtain ⟨FR, FS, h1, h2, h3, h4, h5⟩ := h
  refine (hop FR h1).mono fun e w' ⟨he, k1, ho⟩ => ⟨he, ⟨FR, FS, k1, fun k hk => ⟨(h2 k hk).1, Nat.lt_of_lt_of_le (h2 k hk).2 ho.size⟩, h3.keep ho (fun k hk _ e => h5 k ⟨e ▸ h1.fr, hk⟩), fun k hk => ⟨(h4 k hk).1, Nat.lt_of_lt_of_le (h4 k hk).2 ho.size⟩, h5⟩, ?_⟩
  exact ho.below (fun k e => e ▸ (h2 r h1.fr).1) (Nat.le_trans (h2 r h1.fr).1 (Nat.le_of_lt h1.lt))
theorem RSl.err (h : RSl w B r rs s fn span Q K) : Calls Try.prog 43 #[ptrTo r] w fun e w' => e = .returned (.int .i64 rs.2) ∧ w = w' := by
  obtain ⟨FR, FS, h1, _⟩ := h
  exact rdr_err_ r rs w h1
theorem RSl.end_ (h : RSl w B r rs s fn span Q K) : Calls Try.prog 45 #[ptrTo r] w fun e w' => e = .returned (.int .i64 (rsEnd rs)) ∧ w = w' := by
  obtain ⟨FR, FS, h1, _⟩ := h
  exact rdr_end r rs w h1
end
/-- What a reading of a slide leaves. -/
def RdRes (o : Option RdS) (w : World) (e : Ending) (w' : World) : Prop :=
  Below w.heap.size w w' ∧ ((o = none ∧ e = .returned (.tuple #[.pointer none, .int .i64 4])) ∨ ∃ fn span t P s F, o = some (fn, span, t, P) ∧ e = .returned (.tuple #[.pointer (some ⟨s, 0, none⟩), .int .i64 0]) ∧ SlB w' w.heap.size s fn span ⟨t, P, P.length⟩ F)
set_option maxHeartbeats 8000000 in
set_option maxRecDepth 100000 in
theorem sread_any (A : Option Addr) (c : Nat) (b : List UInt8) (w : World) (hp : Rd w A b) (hl : b.length ≤ 1000000) : Calls Try.prog 26 #[.slice A b.length c] w (RdRes (rdSl b.length b) w) := by
  have CN := Lib.hid (new_any A c b w hp (by omega))
  have HL := Lib.hid hl
  obtain ⟨x1, s1, E1⟩ : ∃ x s, rsNum (b, 0) = (x, s) := ⟨_, _, rfl⟩
  obtain ⟨x2, s2, E2⟩ : ∃ x s, rsNum s1 = (x, s) := ⟨_, _, rfl⟩
  obtain ⟨x3, s3, E3⟩ : ∃ x s, rsNum s2 = (x, s) := ⟨_, _, rfl⟩
  obtain ⟨x4, s4, E4⟩ : ∃ x s, rsCount b.length s3 = (x, s) := ⟨_, _, rfl⟩
  obtain ⟨o, ho⟩ : ∃ o, rdSl b.length b = o := ⟨_, rfl⟩
  have HSP : Hid (o = if ¬ okNew x1 x2 ∨ 1099511627776 < x3 ∨ s4.2 ≠ 0 then none else rdTail x1 x2 x3 (rdPts x3 ((x3 : Int) - x2) x4 0 s4)) := Lib.hid (by rw [← ho]; unfold rdSl; rw [E1, E2, E3, E4])
  have X1 : Hid (N64 x1 ∧ N64 x2 ∧ N64 x3) := Lib.hid ⟨by have := rsNum_64 (b, 0); rwa [E1] at this, by have := rsNum_64 s1; rwa [E2] at this, by have := rsNum_64 s2; rwa [E3] at this⟩
  have X4 : Hid (s4.2 = 0 → x4 ≤ b.length) := Lib.hid (fun h => by
    have := rsCount_own (m := b.length) (s := s3) (by rw [E4]; exact h)
    rw [E4] at this; rw [this.1.symm] at this; exact this.2)
  have G1 := Lib.hid E1
  have G2 := Lib.hid E2
  have G3 := Lib.hid E3
  have G4 := Lib.hid E4
  rw [ho]
  clear hp hl E1 E2 E3 E4 ho
  go_enter Try.func26, Try.ntmps26
  go_wp2_with fail
  refine CN.out.mono ?_
  rintro e w1 ⟨r, rfl, hr, hb⟩
  obtain ⟨FR, hFR, hR⟩ : ∃ FR : Nat → Prop, (∀ k, FR k → w.heap.size ≤ k ∧ k < w1.heap.size) ∧ RdrW w1 FR r (b, 0) := ⟨_, fun k hk => hk, hr.old⟩
  have HFR := Lib.hid hFR
  have HR := Lib.hid hR
  have HB := Lib.hid hb
  clear hr hb hFR hR
  unfold ptrTo
  go_wp2_with fail
  have C1 := Lib.hid (small_made r (b, 0) w1 HR.out)
  rw [G1.out] at C1
  refine C1.out.mono ?_
  rintro e w2 ⟨rfl, hR, ho⟩
  replace HR := Lib.hid hR
  replace HB := Lib.hid (HB.out.trans (ho.below (fun k e => e ▸ (HFR.out r HR.out.fr).1) HB.out.size))
  have HZ2 := Lib.hid ho.size
  clear hR ho C1
  go_wp2_with fail
  have C1 := Lib.hid (small_made r s1 w2 HR.out)
  rw [G2.out] at C1
  refine C1.out.mono ?_
  rintro e w3 ⟨rfl, hR, ho⟩
  replace HR := Lib.hid hR
  replace HB := Lib.hid (HB.out.trans (ho.below (fun k e => e ▸ (HFR.out r HR.out.fr).1) HB.out.size))
  replace HZ2 := Lib.hid (Nat.le_trans HZ2.out ho.size)
  clear hR ho C1
  go_wp2_with fail
  have C1 := Lib.hid (small_made r s2 w3 HR.out)
  rw [G3.out] at C1
  refine C1.out.mono ?_
  rintro e w4 ⟨rfl, hR, ho⟩
  replace HR := Lib.hid hR
  replace HB := Lib.hid (HB.out.trans (ho.below (fun k e => e ▸ (HFR.out r HR.out.fr).1) HB.out.size))
  replace HZ2 := Lib.hid (Nat.le_trans HZ2.out ho.size)
  clear hR ho C1
  go_wp2_with fail
  have C1 := Lib.hid (rdr_count r s3 b.length (by have := HL.out; omega) w4 HR.out)
  rw [G4.out] at C1
  refine C1.out.mono ?_
  rintro e w5 ⟨rfl, hR, ho⟩
  replace HR := Lib.hid hR
  replace HB := Lib.hid (HB.out.trans (ho.below (fun k e => e ▸ (HFR.out r HR.out.fr).1) HB.out.size))
  replace HZ2 := Lib.hid (Nat.le_trans HZ2.out ho.size)
  clear hR ho C1 G1 G2 G3 G4
  have hcase : ∃ f g : Int, (if (100 : Int) < (cutN 1099511627777 x1 : Nat) then (100 : Int) else (cutN 1099511627777 x1 : Nat)) = f ∧ ((cutN 1099511627777 x2 : Nat) : Int) = g ∧ (okNew f g ↔ okNew x1 x2) ∧ (okNew x1 x2 → f = x1 ∧ g = x2) := by
    refine ⟨_, _, rfl, rfl, ?_, fun h => ?_⟩
    · unfold okNew cutN
      constructor
      · intro h; split at h <;> split at h <;> split at h <;> omega
      · intro h; split <;> split <;> split <;> omega
    · unfold okNew at h; unfold cutN
      constructor
      · split <;> split <;> omega
      · split <;> omega
  obtain ⟨f, g, hf, hg, hok, hx⟩ := hcase
  rw [hg]
  have HOK := Lib.hid hok
  have HXX := Lib.hid hx
  clear hg hok hx
  go_wp2_with fail
  refine (snew_any f g w5).mono ?_
  rintro e w6 (⟨hok, s, rfl, hs, hb⟩ | ⟨hno, rfl, hb⟩)
  case inr =>
    have HB6 := Lib.hid (HB.out.trans (hb.mono HB.out.size))
    have HO : Hid (o = none) := Lib.hid (by rw [HSP.out, if_pos (.inl (fun h => hno (HOK.out.2 h)))])
    clear hb hno
    go_wp2_with fail
    refine bodyPost_ret (v := .tuple #[.pointer none, .int .i64 4]) (by simp only [results, Try.results26]; go_simp) rfl ⟨HB6.out, .inl ⟨HO.out, rfl⟩⟩
  case inl =>
    obtain ⟨hf1, hg1⟩ := HXX.out (HOK.out.1 hok)
    subst hf1 hg1
    have HRS : Hid (RSl w6 w.heap.size r s4 s x1 x2 [] 0) := Lib.hid ⟨FR, fun k => w5.heap.size ≤ k ∧ k < w6.heap.size, HR.out.below hb, fun k hk => ⟨(HFR.out k hk).1, by have := (HFR.out k hk).2; have := HZ2.out; have := hb.size; omega⟩, hs.weak (fun k hk h => ⟨h, hk⟩), fun k hk => ⟨by have := HZ2.out; have := HB.out.size; omega, hk.2⟩, fun k hk => by
      have := (HFR.out k hk.1).2; have := HZ2.out; have := hk.2.1; omega⟩
    have HB6 := Lib.hid (HB.out.trans (hb.mono HB.out.size))
    have HKN := Lib.hid (HOK.out.1 hok)
    clear hs hb hok HR HFR HB HZ2 HOK HXX
    unfold ptrTo
    by_cases h3 : 1099511627776 < x3
    · obtain ⟨τ, hτ, hτ2⟩ : ∃ τ : Int, ((cutN 1099511627777 x3 : Nat) : Int) = τ ∧ 1099511627776 < τ := ⟨_, rfl, by unfold cutN; split <;> omega⟩
      have HO : Hid (o = none) := Lib.hid (by rw [HSP.out, if_pos (.inr (.inl h3))])
      rw [hτ]
      clear hτ h3
      go_wp2_with fail
      refine bodyPost_ret (v := .tuple #[.pointer none, .int .i64 4]) (by simp only [results, Try.results26]; go_simp) rfl ⟨HB6.out, .inl ⟨HO.out, rfl⟩⟩
    have hcx : cutN 1099511627777 x3 = x3 := if_pos (by omega)
    have ht3 : ¬ (1099511627776 : Int) < (x3 : Int) := by omega
    rw [hcx]
    clear hcx
    go_wp2_with fail
    refine HRS.out.err.mono ?_
    rintro e w7 ⟨rfl, rfl⟩
    by_cases he : s4.2 = 0
    case neg =>
      have HO : Hid (o = none) := Lib.hid (by rw [HSP.out, if_pos (.inr (.inr he))])
      have he2 : (s4.2 != 0) = true := by rw [bne_iff_ne]; exact he
      clear he
      go_wp2_with fail
      refine bodyPost_ret (v := .tuple #[.pointer none, .int .i64 4]) (by simp only [results, Try.results26]; go_simp) rfl ⟨HB6.out, .inl ⟨HO.out, rfl⟩⟩
    case pos =>
      have HX4 := Lib.hid (X4.out he)
      have HX3 : Hid (x3 ≤ 1099511627776) := Lib.hid (by omega)
      have HO : Hid (o = rdTail x1 x2 x3 (rdPts x3 ((x3 : Int) - x2) x4 0 s4)) := Lib.hid (by rw [HSP.out, if_neg (by simp only [not_or, Decidable.not_not, ne_eq]; exact ⟨HKN.out, h3, he⟩)])
      have HE := Lib.hid he
      rw [he]
      clear h3 he HSP X1 X4
      go_wp2_with fail
      clear ht3
      go_loopw [45, 11] (fun y av wr => ∃ (i j : Nat) (a : Int) (Q : List Pt) (rs : Rst), i + j = x4 ∧ y = .int .i64 i ∧ av = .int .i64 a ∧ Hid (0 ≤ a ∧ a ≤ x3 ∧ Sane Q ∧ (∀ p ∈ Q, p.1 ≤ a) ∧ Q.length = i ∧ rs.2 = 0) ∧ Hid (rdPts x3 ((x3 : Int) - x2) x4 0 s4 = (rdPts x3 ((x3 : Int) - x2) j a rs).map fun q => (Q ++ q.1, q.2)) ∧ Hid (RSl wr w.heap.size r rs s x1 x2 Q i) ∧ Hid (Below w.heap.size w wr)) (fun y _ _ => x4 - (intOf y).toNat)
      case atStart => exact ⟨0, x4, 0, [], s4, by omega, rfl, rfl, Lib.hid ⟨by omega, by omega, ⟨List.Pairwise.nil, by simp, by simp, by simp⟩, by simp, rfl, HE.out⟩, Lib.hid (by cases rdPts x3 ((x3 : Int) - x2) x4 0 s4 <;> simp), HRS, HB6⟩
      case round =>
        obtain ⟨i, j, a, Q, rs, hij, rfl, rfl, HF, HP, HRW, HBW⟩ := hrel
        clear HRS HB6
        cases j with
        | zero =>
          obtain rfl : i = x4 := by omega
          have hi : ¬ (i : Int) < (i : Int) := by omega
          have HO2 : Hid (o = if rsEnd rs ≠ 0 then none else some ((x1 : Int), (x2 : Int), (x3 : Int), Q)) := Lib.hid (by rw [HO.out, HP.out]; simp [rdPts, rdTail])
          clear HO HP
          go_wp2_with fail
          refine HRW.out.end_.mono ?_
          rintro e w8 ⟨rfl, rfl⟩
          by_cases hz : rsEnd rs = 0
          case neg =>
            have hz2 : (rsEnd rs != 0) = true := by rw [bne_iff_ne]; exact hz
            have HO3 : Hid (o = none) := Lib.hid (by rw [HO2.out, if_pos hz])
            clear hz HO2
            go_wp2_with fail
            refine bodyPost_ret (v := .tuple #[.pointer none, .int .i64 4]) (by simp only [results, Try.results26]; go_simp) rfl ⟨HBW.out, .inl ⟨HO3.out, rfl⟩⟩
          case pos =>
            have HO3 : Hid (o = some ((x1 : Int), (x2 : Int), (x3 : Int), Q)) := Lib.hid (by rw [HO2.out, if_neg (by simp [hz])])
            rw [hz]
            obtain ⟨GR, GS, g1, g2, ⟨hs, lv, iv, k1, k2, k3⟩, g4, g5⟩ := HRW.out
            have m2 := cellAt (o := 2) k1 rfl
            have f2 := freeAt 2 k1
            have hoS := Only.set wr s 2 (.int .i64 (x3 : Int))
            have hlen : Q.length = i := HF.out.2.2.2.2.1
            have HSL : Hid (SlB (wr.setCell ⟨s, 2, none⟩ (.int .i64 (x3 : Int))) w.heap.size s x1 x2 ⟨x3, Q, Q.length⟩ GS) := Lib.hid ⟨by
              rw [hlen]
              exact ⟨hs, lv, iv, by rw [setCell_get k1]; rfl, k2.keep hoS (fun k hk _ e => hk.2 e), k3.keep hoS (fun k hk _ e => hk.2.1 e)⟩, fun k hk => (g4 k hk).1, fun k hk => Nat.lt_of_lt_of_le (g4 k hk).2 hoS.size⟩
            have HBF : Hid (Below w.heap.size w (wr.setCell ⟨s, 2, none⟩ (.int .i64 (x3 : Int)))) := Lib.hid (HBW.out.setCell (g4 s hs).1 _)
            clear hz HO2 k1 k2 k3 g1 g2 g4 g5 hoS hlen hs
            go_wp2_with fail
            refine bodyPost_ret (v := .tuple #[.pointer (some ⟨s, 0, none⟩), .int .i64 0]) (by simp only [results, Try.results26]; go_simp) rfl ⟨HBF.out, .inr ⟨_, _, _, _, _, _, HO3.out, rfl, HSL.out⟩⟩
        | succ j =>
          have hi : (i : Int) < (x4 : Int) := by omega
          obtain ⟨v1, rs1, e1⟩ : ∃ v s, rsNum rs = (v, s) := ⟨_, _, rfl⟩
          obtain ⟨x, rs2, e2⟩ : ∃ v s, rsSigned rs1 = (v, s) := ⟨_, _, rfl⟩
          have hIx : In64 x := by
            have : In64 (rsSigned rs1).1 := unzz_in (rsNum_64 _)
            rwa [e2] at this
          have hS := small_made (F := fun _ => True) r rs
          obtain ⟨d, hd, hd2⟩ : ∃ d : Nat, cutN 1099511627777 v1 = d ∧ d ≤ 1099511627777 := ⟨_, rfl, by unfold cutN; split <;> omega⟩
          have HPS : Hid (rdPts x3 ((x3 : Int) - x2) (j + 1) a rs = if rs2.2 ≠ 0 ∨ d < 1 ∨ (x3 : Int) < a + d ∨ a + d ≤ (x3 : Int) - x2 then none else (rdPts x3 ((x3 : Int) - x2) j (a + d) rs2).map fun q => ((a + d, x) :: q.1, q.2)) := Lib.hid (by
            rw [rdPts, e1]
            simp only [e2, hd])
          have CS := Lib.hid (fun W (h : RSl W w.heap.size r rs s x1 x2 Q i) => h.rdr (f := 41) (args := #[ptrTo r]) (rs' := rs1) (v := .int .i64 (d : Int)) (fun F hF => by have := small_made r rs W hF; rw [e1] at this; rw [hd] at this; exact this))
          have CG := Lib.hid (fun W (h : RSl W w.heap.size r rs1 s x1 x2 Q i) => h.rdr (f := 44) (args := #[ptrTo r]) (rs' := rs2) (v := .int .i64 x) (fun F hF => by have := rdr_signed r rs1 W hF; rw [e2] at this; exact this))
          have HIX := Lib.hid hIx
          have HD := Lib.hid hd2
          unfold ptrTo at CS CG
          clear hS hIx hd hd2 e1 e2
          obtain ⟨u, hu⟩ : ∃ u, u = a + (d : Int) := ⟨_, rfl⟩
          have hw : IntKind.i64.wrap (a + (d : Int)) = u := by have := HF.out; have := HD.out; have := HX3.out; rw [IntKind.wrap_i64]; omega
          have hw2 : IntKind.i64.wrap ((x3 : Int) - (x2 : Int)) = (x3 : Int) - (x2 : Int) := by have h1 := HX3.out; have h2 := HKN.out; unfold okNew at h2; rw [IntKind.wrap_i64]; omega
          rw [← hu] at HPS
          have HU := Lib.hid hu
          clear hu
          go_wp2_with fail
          refine (CS.out _ HRW.out).mono ?_
          rintro e w8 ⟨rfl, hr, hb⟩
          replace HRW := Lib.hid hr
          replace HBW := Lib.hid (HBW.out.trans hb)
          clear hr hb
          go_wp2_with fail
          refine (CG.out _ HRW.out).mono ?_
          rintro e w9 ⟨rfl, hr, hb⟩
          replace HRW := Lib.hid hr
          replace HBW := Lib.hid (HBW.out.trans hb)
          clear hr hb CS CG
          go_wp2_with fail
          refine HRW.out.err.mono ?_
          rintro e w10 ⟨rfl, rfl⟩
          by_cases c1 : rs2.2 = 0
          case neg =>
            have c2 : (rs2.2 != 0) = true := by rw [bne_iff_ne]; exact c1
            have HO3 : Hid (o = none) := Lib.hid (by rw [HO.out, HP.out, HPS.out, if_pos (.inl c1)]; rfl)
            clear c1
            go_wp2_with fail
            refine bodyPost_ret (v := .tuple #[.pointer none, .int .i64 4]) (by simp only [results, Try.results26]; go_simp) rfl ⟨HBW.out, .inl ⟨HO3.out, rfl⟩⟩
          rw [c1]
          by_cases c2 : (d : Int) < 1
          case pos =>
            have HO3 : Hid (o = none) := Lib.hid (by rw [HO.out, HP.out, HPS.out, if_pos (.inr (.inl (by omega)))]; rfl)
            go_wp2_with fail
            refine bodyPost_ret (v := .tuple #[.pointer none, .int .i64 4]) (by simp only [results, Try.results26]; go_simp) rfl ⟨HBW.out, .inl ⟨HO3.out, rfl⟩⟩
          by_cases c3 : (x3 : Int) < u
          case pos =>
            have HO3 : Hid (o = none) := Lib.hid (by rw [HO.out, HP.out, HPS.out, if_pos (.inr (.inr (.inl c3)))]; rfl)
            go_wp2_with fail
            refine bodyPost_ret (v := .tuple #[.pointer none, .int .i64 4]) (by simp only [results, Try.results26]; go_simp) rfl ⟨HBW.out, .inl ⟨HO3.out, rfl⟩⟩
          by_cases c4 : u ≤ (x3 : Int) - (x2 : Int)
          case pos =>
            have HO3 : Hid (o = none) := Lib.hid (by rw [HO.out, HP.out, HPS.out, if_pos (.inr (.inr (.inr c4)))]; rfl)
            go_wp2_with fail
            refine bodyPost_ret (v := .tuple #[.pointer none, .int .i64 4]) (by simp only [results, Try.results26]; go_simp) rfl ⟨HBW.out, .inl ⟨HO3.out, rfl⟩⟩
          have HPN : Hid (rdPts x3 ((x3 : Int) - x2) x4 0 s4 = (rdPts x3 ((x3 : Int) - x2) j u rs2).map fun q => ((Q ++ [(u, x)]) ++ q.1, q.2)) := Lib.hid (by
            rw [HP.out, HPS.out, if_neg (by simp only [not_or, Decidable.not_not, ne_eq]; exact ⟨c1, by omega, c3, c4⟩)]
            cases rdPts x3 ((x3 : Int) - x2) j u rs2 <;> simp)
          have HC1 := Lib.hid c1
          have HFu : Hid (a < u ∧ u ≤ x3) := Lib.hid ⟨by have := HU.out; omega, by omega⟩
          clear HP HPS c1
          go_wp2_with fail
          obtain ⟨GR, GS, g1, g2, ⟨hs, lv, iv, k1, k2, k3⟩, g4, g5⟩ := HRW.out
          obtain ⟨T, rv, rfl⟩ := k3.iface
          obtain ⟨A9, c9, rfl, _⟩ := k2.form
          have H1b := Lib.hid k1
          have H2b := Lib.hid k2
          have H3b := Lib.hid k3
          have HFs := Lib.hid hs
          have HG1 := Lib.hid g1
          have HG2 := Lib.hid g2
          have HG4 := Lib.hid g4
          have HG5 := Lib.hid g5
          have HLq : Hid (Q.length ≤ 1000000) := Lib.hid (by have h1 := HF.out.2.2.2.2.1; have h2 := HL.out; have h3 := HX4.out; omega)
          have HSn : Hid (Sane (Q ++ [(u, x)])) := Lib.hid (HF.out.2.2.1.snoc HF.out.2.2.2.1 HFu.out.1 (by have h1 := HF.out.1; have h2 := HFu.out.1; omega) (by have h1 := HFu.out.2; have h2 := HX3.out; omega) HIX.out (by have := HLq.out; omega))
          have HQi := Lib.hid HF.out.2.2.2.2.1
          have CO := Lib.hid (fun W => of_any x W)
          obtain ⟨ip, hip, hz1, hz2, hz3⟩ := info_parts infoP
          have HIP := Lib.hid hip
          have HZ1 := Lib.hid hz1
          have HZ2 := Lib.hid hz2
          have HZ3 := Lib.hid hz3
          have hne : ¬ (Value.slice A9 Q.length c9).ownBlock = some s := fun e => (H2b.out.lt s e).1.2 rfl
          have HNS : Hid (∀ p ∈ [(s, Obj.cells #[.int .i64 x1, .int .i64 x2, .int .i64 0, .slice A9 Q.length c9, .iface T rv] 63)], ¬ (Value.slice A9 Q.length c9).ownBlock = some p.1) := Lib.hid (fun p hp h => by
            simp only [List.mem_cons, List.not_mem_nil, or_false] at hp
            subst hp; exact hne h)
          have HFC : Hid (FC w9 (fun k => (Value.slice A9 Q.length c9).ownBlock = some k) [(s, Obj.cells #[.int .i64 x1, .int .i64 x2, .int .i64 0, .slice A9 Q.length c9, .iface T rv] 63)] w9) := Lib.hid ⟨Only.refl _ _, fun p hp => by
            simp only [List.mem_cons, List.not_mem_nil, or_false] at hp
            subst hp; exact H1b.out⟩
          clear hne hip hz1 hz2 hz3 k1 k2 k3 g1 g2 g4 g5 hs hi hw hw2 c2 c3 c4
          refine wp_region_two 11 [(0, false), (1, false), (2, false), (3, false), (4, false), (5, false), (6, false), (7, false), (8, false), (9, true), (10, true)] [] [] rfl (FC w9 (fun k => (Value.slice A9 Q.length c9).ownBlock = some k) [(s, Obj.cells #[.int .i64 x1, .int .i64 x2, .int .i64 0, .slice A9 Q.length c9, .iface T rv] 63)]) (D0 w9) (by kernel_rfl) (by kernel_rfl) FC.stab (D0.stab w9) (FC.stab _ _ HFC.out (Below.refl _ _).drew) (Below.refl _ _).drew ?_
          repeat (first | (refine wt_q rfl rfl ?_; apply Exists.intro; refine ⟨fun w' hw' => ?_, fun K hK => ?_⟩; (focus ((have q0 := hw'.get 0 rfl; have j3 := cellAt (o := 3) q0 rfl; clear q0); go_simp; first | exact quiet_value | with_reducible exact quiet_enter (CO.out _))); simp only [Act.put, List.setIfInBounds_toArray, List.set_cons_zero, List.set_cons_succ]; refine hK.out _ ?_; clear hK K) | (refine wt_skip rfl rfl (fun K hK => ?_); simp only [Act.put, List.setIfInBounds_toArray, List.set_cons_zero, List.set_cons_succ]; refine hK.out _ ?_; clear hK K))
          refine wt_bs 54 #[.int .i64 u, .int .i64 x, .bool false] rfl rfl rfl (fun w' hc hd => ?_) (fun K' hK' v => ?_)
          focus
            have HCd := Lib.hid (And.intro hc hd)
            clear hc hd
            go_simp
            exact bs_res HCd.out.1 HCd.out.2 rfl
          simp only [Act.put, List.setIfInBounds_toArray, List.set_cons_zero, List.set_cons_succ]
          refine hK'.out _ _ _ ?_
          clear hK' K'
          refine wt_ap 3 (Q.length + 1) (pcs Q ++ pc (u, x)) rfl rfl rfl (fun w' hc hd => ?_) (fun K' hK' v' => ?_)
          focus
            obtain ⟨u9, w3, hrun, hres⟩ := ap_run (P := Try.prog) 33 33 54 ip _ 3 24 undP HIP.out HZ1.out HZ2.out HZ3.out rfl H2b.out (fun _ => Iff.rfl) HNS.out rfl (fun u hu => pcs_one [(_, x)] u (by simpa [pcs, pc] using hu)) (by have := HLq.out; omega) (by omega) hc hd
            exact st_ap (.tmp 77) (.tmp 82) rfl rfl rfl hrun hres
          simp only [Act.put, List.setIfInBounds_toArray, List.set_cons_zero, List.set_cons_succ]
          refine hK'.out _ _ _ ?_
          clear hK' K'
          refine wt_nil ?_
          rintro w3 ⟨⟨hc3, _⟩, _⟩ ⟨w2, hb2, hrow3, ho3⟩
          obtain ⟨g3, o3, c3, rfl, hj1, hj2, hj3⟩ := hrow3.ad (by omega)
          clear hj1 hj2 hj3
          have q0 := hc3.get 0 rfl
          have j3 := cellAt (o := 3) q0 rfl
          have f3 := freeAt 3 q0
          have hAp := SlideW.appended HFs.out q0 H2b.out H3b.out (only_lt H1b.out) hb2 hrow3 ho3
          have H4 := Lib.hid hAp.1
          have H5 := Lib.hid hAp.2.1
          have H6 := Lib.hid hAp.2.2
          have H7 := Lib.hid (setCell_get (o := 3) (u := .slice (some ⟨g3, o3, none⟩) (Q.length + 1) c3) q0)
          clear hrow3 ho3 hc3 q0 hb2 hAp
          try simp only [List.drop_succ_cons, List.drop_zero]
          go_wp2_with fail
          clear j3 f3
          generalize (World.setCell w3 _ _) = W9 at *
          obtain ⟨_, _, _, he9, hj1, hj2, hrd⟩ := H4.out.ad (by simp)
          clear hj1 hj2
          simp only [Value.slice.injEq, Option.some.injEq, Addr.mk.injEq, and_true] at he9
          obtain ⟨⟨rfl, rfl⟩, hj1, rfl⟩ := he9
          clear hj1
          have hmp := fun W (hb : Below W9.heap.size W9 W) => mk_push (H5.out.below hb) (u, x) g3 o3 c3 (RPt.below (P := Q ++ [(u, x)]) hrd hb) HSn.out.nums (by have := HLq.out; omega) (by have h1 := HLq.out; have h2 := HQi.out; omega)
          obtain ⟨T', rv', f', hTT, hcm2, hat⟩ := (hmp W9 (Below.refl _ _)).at_
          cases hTT
          have CV := Lib.hid (fun W (hb : Below W9.heap.size W9 W) => hat _ W _ (hmp W hb))
          have HCM := Lib.hid hcm2
          have HNS9 : Hid (∀ p ∈ [(s, Obj.cells #[.int .i64 x1, .int .i64 x2, .int .i64 0, .slice (some ⟨g3, o3, none⟩) (Q.length + 1) c3, .iface T rv] 63)], ¬ ((GS p.1 ∨ w9.heap.size ≤ p.1) ∧ p.1 ≠ s ∧ (Value.slice (some ⟨g3, o3, none⟩) (Q.length + 1) c3).ownBlock ≠ some p.1)) := Lib.hid (fun p hp h => by
            simp only [List.mem_cons, List.not_mem_nil, or_false] at hp
            subst hp; exact h.2.1 rfl)
          have HFC9 : Hid (FC W9 (fun k => (GS k ∨ w9.heap.size ≤ k) ∧ k ≠ s ∧ (Value.slice (some ⟨g3, o3, none⟩) (Q.length + 1) c3).ownBlock ≠ some k) [(s, Obj.cells #[.int .i64 x1, .int .i64 x2, .int .i64 0, .slice (some ⟨g3, o3, none⟩) (Q.length + 1) c3, .iface T rv] 63)] W9) := Lib.hid ⟨Only.refl _ _, fun p hp => by
            simp only [List.mem_cons, List.not_mem_nil, or_false] at hp
            subst hp; exact H7.out⟩
          clear hrd hmp hat hcm2
          refine wp_region_two 11 [(0, false), (1, false), (2, false), (3, false), (4, false), (5, false), (6, false), (7, false), (8, false), (9, false), (10, true)] [] [] rfl (FC W9 (fun k => (GS k ∨ w9.heap.size ≤ k) ∧ k ≠ s ∧ (Value.slice (some ⟨g3, o3, none⟩) (Q.length + 1) c3).ownBlock ≠ some k) [(s, Obj.cells #[.int .i64 x1, .int .i64 x2, .int .i64 0, .slice (some ⟨g3, o3, none⟩) (Q.length + 1) c3, .iface T rv] 63)]) (D0 W9) (by kernel_rfl) (by kernel_rfl) FC.stab (D0.stab W9) (FC.stab _ _ HFC9.out (Below.refl _ _).drew) (Below.refl _ _).drew ?_
          repeat (first | (refine wt_q rfl rfl ?_; apply Exists.intro; refine ⟨fun w' hw' => ?_, fun K hK => ?_⟩; (focus ((have q0 := hw'.get 0 rfl; have j3 := cellAt (o := 3) q0 rfl; have j4 := cellAt (o := 4) q0 rfl; clear q0); go_simp; first | exact quiet_value | fail)); simp only [Act.put, List.setIfInBounds_toArray, List.set_cons_zero, List.set_cons_succ]; refine hK.out _ ?_; clear hK K) | (refine wt_skip rfl rfl (fun K hK => ?_); simp only [Act.put, List.setIfInBounds_toArray, List.set_cons_zero, List.set_cons_succ]; refine hK.out _ ?_; clear hK K))
          refine wt_step rfl (fun _ => Triv) (fun _ W => MkW W (fun k => ((GS k ∨ w9.heap.size ≤ k) ∧ k ≠ s ∧ (Value.slice (some ⟨g3, o3, none⟩) (Q.length + 1) c3).ownBlock ≠ some k) ∨ W9.heap.size ≤ k) x1 (.iface T rv) (Q ++ [(u, x)]) (i + 1)) (fun _ _ _ _ _ => triv _) (fun _ _ _ h hb => h.below hb) rfl rfl (fun w' hc hd => st_inv (.tmp 95) (.tmp 93) rfl rfl rfl HCM.out ((CV.out w' hd).mono fun e w'' h => ⟨_, h.1, FC.step HNS9.out _ _ hc h.2.2, triv _, h.2.1.weak (fun k _ hk => hk.elim .inl (fun hk => .inr (Nat.le_trans (Below.size hd) hk)))⟩)) (fun K' hK' v => ?_)
          simp only [Act.put, List.setIfInBounds_toArray, List.set_cons_zero, List.set_cons_succ]
          refine hK'.out _ _ _ ?_
          clear hK' K'
          refine wt_nil ?_
          rintro w4 ⟨hc4, _⟩ hm4
          have hsz9 := H6.out.size
          have hvlt := H4.out.lt
          have hO4 := H6.out.then hc4.only (fun k hk h => h.1.elim id (fun h => by omega))
          have hslt := only_lt H1b.out
          have HSW : Hid (SlideW w4 (fun k => GS k ∨ w9.heap.size ≤ k) s x1 x2 0 (Q ++ [(u, x)]) (i + 1)) := Lib.hid ⟨.inl HFs.out, .slice (some ⟨g3, o3, none⟩) (Q.length + 1) c3, .iface T rv, hc4.get 0 rfl,
            (H4.out.keep' hc4.only (fun k hk e => e.2.2 hk)),
            hm4.weak (fun k _ hk => by
              rcases hk with hk | hk
              · exact hk
              · exact ⟨.inr (by omega), by omega, fun e => by have := (hvlt k e).2; omega⟩)⟩
          have HRN : Hid (RSl w4 w.heap.size r rs2 s x1 x2 (Q ++ [(u, x)]) (i + 1)) := Lib.hid ⟨GR, fun k => (GS k ∨ w9.heap.size ≤ k) ∧ k < w4.heap.size, HG1.out.keep hO4 (fun k hk _ h => HG5.out k ⟨hk, h⟩), fun k hk => ⟨(HG2.out k hk).1, Nat.lt_of_lt_of_le (HG2.out k hk).2 hO4.size⟩, HSW.out.weak (fun _ hk h => ⟨h, hk⟩), fun k hk => ⟨hk.1.elim (fun h => (HG4.out k h).1) (Nat.le_trans HBW.out.size), hk.2⟩, fun k hk => by
            rcases hk.2.1 with h | h
            · exact HG5.out k ⟨hk.1, h⟩
            · have := (HG2.out k hk.1).2; omega⟩
          have HBN : Hid (Below w.heap.size w w4) := Lib.hid (HBW.out.trans (hO4.below (fun k h => (HG4.out k h).1) HBW.out.size))
          clear hc4 hm4 hsz9 hslt hvlt hO4
          try simp only [List.drop_succ_cons, List.drop_nil]
          have hi9 : (i : Int) + 1 ≤ 1099511627776 := by have h1 := HLq.out; have h2 := HQi.out; omega
          go_wp2_with fail
          go_roundw
          case rel => exact ⟨i + 1, j, u, Q ++ [(u, x)], rs2, by omega, by go_num, rfl, Lib.hid ⟨by have h1 := HF.out.1; have h2 := HFu.out.1; omega, HFu.out.2, HSn.out, fun p hp => by
            rcases List.mem_append.1 hp with hp | hp
            · have h1 := HF.out.2.2.2.1 p hp; have h2 := HFu.out.1; omega
            · simp only [List.mem_singleton] at hp; subst hp; exact Int.le_refl _, by rw [List.length_append, HQi.out]; rfl, HC1.out⟩, HPN, HRN, HBN⟩
          case measure =>
            have h1 := HLq.out
            have h2 := HQi.out
            simp [intOf]; omega
end Go.Proofs.Ytbhkgnhgecchcaa
