/- Values read, by the program's reader and the reference's; the reference's Bytes. -/
import Derived.Test.YtfiinceogenlmaaRrm
import Derived.Test.YtfiinceogenlmaaNumB
import Derived.Test.YtfiinceogenlmaaWRef
namespace Go.Proofs.Ytfiinceogenlmaa
open Go.RowKit
def valV (n : Int) (o ok : Bool) : Value := .tuple #[.agg #[.int .i64 n, .bool o], .bool ok]
theorem rsVal_over {s : Rst} {t : Rst} (h : rsTruth s = (true, t)) : rsVal s = if t.2 ≠ 0 then ((0, false), false, t) else ((0, true), true, t) := by
  unfold rsVal; rw [h]; rfl
theorem rsVal_num {s : Rst} {t u : Rst} {x : Int} (h : rsTruth s = (false, t)) (h2 : rsSigned t = (x, u)) : rsVal s = if u.2 ≠ 0 then ((0, false), false, u) else ((x, false), true, u) := by
  unfold rsVal; rw [h]; simp only [Bool.false_eq_true, if_false, h2]
def ValP (P : World → Rst → Prop) (r : Nat) (s : Rst) (w : World) (e : Ending) (w' : World) : Prop :=
  e = .returned (valV (rsVal s).1.1 (rsVal s).1.2 (rsVal s).2.1) ∧ P w' (rsVal s).2.2 ∧ Only (fun k => k = r) w w'
theorem ValP.of {P : World → Rst → Prop} {r : Nat} {s u : Rst} {w : World} {e : Ending} {w' : World} {n : Int} {o ok : Bool} (he : e = .returned (valV n o ok)) (hv : rsVal s = ((n, o), ok, u)) (h : P w' u) (ho : Only (fun k => k = r) w w') : ValP P r s w e w' := by
  unfold ValP; rw [hv]; exact ⟨he, h, ho⟩
theorem val_end {P : World → (Nat → Prop) → Nat → Rst → Prop} (hk : ∀ {w w' : World} {F S : Nat → Prop} {r : Nat} {s : Rst}, P w F r s → Only S w w' → (∀ k, F k → k < w.heap.size → ¬ S k) → P w' F r s)
    (hwk : ∀ {w : World} {F G : Nat → Prop} {r : Nat} {s : Rst}, P w F r s → (∀ k, F k → G k) → P w G r s) {F : Nat → Prop} {r : Nat} {s u : Rst} {w W3 : World} {n : Int} {o ok : Bool} {a b : Value}
    (hv : rsVal s = ((n, o), ok, u)) (hR : P W3 (fun k => F k ∧ k < w.heap.size) r u) (hO : Only (fun k => k = r) w W3) :
    ValP (fun w s => P w F r s) r s w (.returned (valV n o ok)) ((W3.setCell ⟨w.heap.size, 0, none⟩ a).setCell ⟨w.heap.size, 1, none⟩ b) := by
  have h1 := (Only.set W3 w.heap.size 0 a).trans (Only.set _ w.heap.size 1 b)
  refine ValP.of rfl hv (hwk (hk hR h1 (fun k hk _ e => by omega)) (fun _ h => h.1)) (hO.then h1 (fun i hi e => by omega))
set_option maxRecDepth 100000 in
theorem read_any {F : Nat → Prop} (r : Nat) (s : Rst) (w : World) (h : RdrW w F r s) : Calls Try.prog 34 #[ptrTo r] w (ValP (fun w s => RdrW w F r s) r s w) := by
  have HR0 := Lib.hid (h.old.below (below_alloc (Below.refl _ _) (.cells #[.int .i64 0, .bool false] 25)))
  have HT := Lib.hid (rdr_truth r s _ HR0.out)
  have hrl := h.lt
  obtain ⟨⟨o, t⟩, ht⟩ : ∃ p, rsTruth s = p := ⟨_, rfl⟩
  unfold RdP1 at HT
  rw [ht] at HT
  have B0 := Lib.hid (newB w (.cells #[.int .i64 0, .bool false] 25))
  have O0 := Lib.hid ((Only.refl (fun k => k = r) w).alloc (.cells #[.int .i64 0, .bool false] 25))
  have HN := Lib.hid (show w.heap.size ≠ r by omega)
  clear h
  unfold ptrTo at *
  cases o
  · obtain ⟨⟨x, u⟩, hu⟩ : ∃ p, rsSigned t = p := ⟨_, rfl⟩
    have HV := Lib.hid (rsVal_num ht hu)
    have HU := Lib.hid hu
    clear ht hu
    go_enter Try.func34, Try.ntmps34
    go_wp2_with fail
    refine HT.out.mono ?_
    rintro e w1 ⟨rfl, hR, ho⟩
    have HO1 := Lib.hid (O0.out.trans ho)
    have B1 := Lib.hid (ho.get B0.out HN.out)
    have hR1 := hR.below (below_alloc (Below.refl _ _) (.cells #[.int .i64 0, .bool false] 25))
    have HN1 := Lib.hid (show w.heap.size ≤ w1.heap.size from HO1.out.size)
    have HN1' := Lib.hid (show w1.heap.size ≠ r by have := hR.lt; omega)
    have HS := Lib.hid (rdr_signed r t _ hR1)
    unfold RdP1 at HS
    unfold ptrTo at HS
    rw [HU.out] at HS
    clear hR ho hR1
    go_wp2_with fail
    refine HS.out.mono ?_
    rintro e w2 ⟨rfl, hR, ho⟩
    have HO := Lib.hid ((HO1.out.alloc (.cells #[.int .i64 0, .bool false] 25)).trans ho)
    have b0 := ho.get (keepA B1.out (.cells #[.int .i64 0, .bool false] 25)) HN.out
    have b1 := ho.get (newB w1 (.cells #[.int .i64 0, .bool false] 25)) HN1'.out
    have k1 := cellAt (o := 0) b1 rfl
    have k2 := cellAt (o := 1) b1 rfl
    have k3 := freeAt 0 b1
    have B2 := Lib.hid b0
    have B3 := Lib.hid b1
    have hne : w1.heap.size ≠ w.heap.size := by have := HO1.out.size; have := (only_lt B1.out); omega
    have HNE := Lib.hid hne
    have hR0 := Lib.hid hR
    have HR2 := Lib.hid (hR.keep (S := fun k => w.heap.size ≤ k) ((Only.refl _ _).setCell (p := ⟨w1.heap.size, 0, none⟩) (fun _ => HN1.out) (.int .i64 x)) (fun k hk _ hs => absurd hk.2 (by omega)))
    have HO2 := Lib.hid (HO.out.then (T := fun k => w.heap.size ≤ k) ((Only.refl _ _).setCell (p := ⟨w1.heap.size, 0, none⟩) (fun _ => HN1.out) (.int .i64 x)) (fun i hi h => absurd hi (by omega)))
    have hm := Lib.hid (setCell_get (o := 0) (u := .int .i64 x) b1)
    have hm0 := Lib.hid (setCell_other (o := 0) (u := .int .i64 x) b0 hne.symm)
    clear hR ho b0 b1 hne
    replace HO := HO2
    replace HR := HR2
    go_wp2_with fail; refine (rdr_err_ r u _ HR.out).mono ?_; rintro e w3 ⟨rfl, rfl⟩
    clear k1 k2 k3 HR2 HO2 B2 B3
    generalize w2.setCell ⟨w1.heap.size, 0, none⟩ (.int .i64 x) = W3 at *
    have m0 := cellAt (o := 0) hm0.out rfl
    have m1 := cellAt (o := 1) hm0.out rfl
    have f0 := freeAt 0 hm0.out
    have f1 := freeAt 1 hm0.out
    have p0 := cellAt (o := 0) hm.out rfl
    have p1 := cellAt (o := 1) hm.out rfl
    by_cases he : u.2 = 0
    · have e1 : (u.2 != 0) = false := by simp [he]
      rw [if_neg (by simpa using he)] at HV
      clear he
      go_wp2_with fail; refine bodyPost_ret (v := valV (x) false true) (by simp only [results, Try.results34, valV]; go_simp) rfl (val_end (P := RdrW) RdrW.keep RdrW.weak HV.out HR.out HO.out)
    · have e1 : (u.2 != 0) = true := by rw [bne_iff_ne]; exact he
      rw [if_pos he] at HV
      clear he
      go_wp2_with fail; refine bodyPost_ret (v := valV (0) false false) (by simp only [results, Try.results34, valV]; go_simp) rfl (val_end (P := RdrW) RdrW.keep RdrW.weak HV.out HR.out HO.out)
  · have HV := Lib.hid (rsVal_over ht)
    clear ht
    go_enter Try.func34, Try.ntmps34
    go_wp2_with fail
    refine HT.out.mono ?_
    rintro e w1 ⟨rfl, hR, ho⟩
    have HO1 := Lib.hid (O0.out.trans ho)
    have B1 := Lib.hid (ho.get B0.out HN.out)
    have HN1 := Lib.hid (show w.heap.size ≤ w1.heap.size from HO1.out.size)
    have HR := Lib.hid (hR.below (below_alloc (Below.refl _ _) (.cells #[.int .i64 0, .bool true] 25)))
    have HO := Lib.hid (HO1.out.alloc (.cells #[.int .i64 0, .bool true] 25))
    have hm0 := Lib.hid (keepA B1.out (.cells #[.int .i64 0, .bool true] 25))
    have hm := Lib.hid (newB w1 (.cells #[.int .i64 0, .bool true] 25))
    obtain ⟨u, hu⟩ : ∃ u, u = t := ⟨_, rfl⟩
    subst hu
    clear hR ho
    go_wp2_with fail; refine (rdr_err_ r u _ HR.out).mono ?_; rintro e w3 ⟨rfl, rfl⟩
    generalize w1.alloc (.cells #[.int .i64 0, .bool true] 25) = W3 at *
    have m0 := cellAt (o := 0) hm0.out rfl
    have m1 := cellAt (o := 1) hm0.out rfl
    have f0 := freeAt 0 hm0.out
    have f1 := freeAt 1 hm0.out
    have p0 := cellAt (o := 0) hm.out rfl
    have p1 := cellAt (o := 1) hm.out rfl
    by_cases he : u.2 = 0
    · have e1 : (u.2 != 0) = false := by simp [he]
      rw [if_neg (by simpa using he)] at HV
      clear he
      go_wp2_with fail; refine bodyPost_ret (v := valV (0) true true) (by simp only [results, Try.results34, valV]; go_simp) rfl (val_end (P := RdrW) RdrW.keep RdrW.weak HV.out HR.out HO.out)
    · have e1 : (u.2 != 0) = true := by rw [bne_iff_ne]; exact he
      rw [if_pos he] at HV
      clear he
      go_wp2_with fail; refine bodyPost_ret (v := valV (0) false false) (by simp only [results, Try.results34, valV]; go_simp) rfl (val_end (P := RdrW) RdrW.keep RdrW.weak HV.out HR.out HO.out)
theorem RefW.err {w : World} {F : Nat → Prop} {r : Nat} {s : Rst} (h : RefW w F r s) : w.cell? ⟨r, 2, none⟩ = some (.int .i64 s.2) := by
  obtain ⟨A, c, B, I, h1, _⟩ := h; exact cellAt (o := 2) h1 rfl
set_option maxRecDepth 100000 in
theorem rread_any {F : Nat → Prop} (r : Nat) (s : Rst) (w : World) (h : RefW w F r s) : Calls Try.prog 35 #[ptrTo r] w (ValP (fun w s => RefW w F r s) r s w) := by
  have HR0 := Lib.hid (h.old.below (below_alloc (Below.refl _ _) (.cells #[.int .i64 0, .bool false] 25)))
  have HT := Lib.hid (rr_truth r s _ HR0.out)
  have hrl := h.lt
  obtain ⟨⟨o, t⟩, ht⟩ : ∃ p, rsTruth s = p := ⟨_, rfl⟩
  unfold RrP at HT
  rw [ht] at HT
  have B0 := Lib.hid (newB w (.cells #[.int .i64 0, .bool false] 25))
  have O0 := Lib.hid ((Only.refl (fun k => k = r) w).alloc (.cells #[.int .i64 0, .bool false] 25))
  have HN := Lib.hid (show w.heap.size ≠ r by omega)
  clear h
  unfold ptrTo at *
  cases o
  · obtain ⟨⟨x, u⟩, hu⟩ : ∃ p, rsSigned t = p := ⟨_, rfl⟩
    have HV := Lib.hid (rsVal_num ht hu)
    have HU := Lib.hid hu
    clear ht hu
    go_enter Try.func35, Try.ntmps35
    go_wp2_with fail
    refine HT.out.mono ?_
    rintro e w1 ⟨rfl, hR, ho⟩
    have HO1 := Lib.hid (O0.out.trans ho)
    have B1 := Lib.hid (ho.get B0.out HN.out)
    have hR1 := hR.below (below_alloc (Below.refl _ _) (.cells #[.int .i64 0, .bool false] 25))
    have HN1 := Lib.hid (show w.heap.size ≤ w1.heap.size from HO1.out.size)
    have HN1' := Lib.hid (show w1.heap.size ≠ r by have := hR.lt; omega)
    have HS := Lib.hid (rr_signed r t _ hR1)
    unfold RrP at HS
    unfold ptrTo at HS
    rw [HU.out] at HS
    clear hR ho hR1
    go_wp2_with fail
    refine HS.out.mono ?_
    rintro e w2 ⟨rfl, hR, ho⟩
    have HO := Lib.hid ((HO1.out.alloc (.cells #[.int .i64 0, .bool false] 25)).trans ho)
    have b0 := ho.get (keepA B1.out (.cells #[.int .i64 0, .bool false] 25)) HN.out
    have b1 := ho.get (newB w1 (.cells #[.int .i64 0, .bool false] 25)) HN1'.out
    have k1 := cellAt (o := 0) b1 rfl
    have k2 := cellAt (o := 1) b1 rfl
    have k3 := freeAt 0 b1
    have B2 := Lib.hid b0
    have B3 := Lib.hid b1
    have hne : w1.heap.size ≠ w.heap.size := by have := HO1.out.size; have := (only_lt B1.out); omega
    have HNE := Lib.hid hne
    have hR0 := Lib.hid hR
    have HR2 := Lib.hid (hR.keep (S := fun k => w.heap.size ≤ k) ((Only.refl _ _).setCell (p := ⟨w1.heap.size, 0, none⟩) (fun _ => HN1.out) (.int .i64 x)) (fun k hk _ hs => absurd hk.2 (by omega)))
    have HO2 := Lib.hid (HO.out.then (T := fun k => w.heap.size ≤ k) ((Only.refl _ _).setCell (p := ⟨w1.heap.size, 0, none⟩) (fun _ => HN1.out) (.int .i64 x)) (fun i hi h => absurd hi (by omega)))
    have hm := Lib.hid (setCell_get (o := 0) (u := .int .i64 x) b1)
    have hm0 := Lib.hid (setCell_other (o := 0) (u := .int .i64 x) b0 hne.symm)
    clear hR ho b0 b1 hne
    replace HO := HO2
    replace HR := HR2
    have q2 := RefW.err hR0.out
    have m0 := cellAt (o := 0) B2.out rfl
    have m1 := cellAt (o := 1) B2.out rfl
    have f0 := freeAt 0 B2.out
    have f1 := freeAt 1 B2.out
    have n1 := HNE.out
    have n2 := HN1'.out
    have n3 := HN.out
    clear hm hm0
    by_cases he : u.2 = 0
    · have e1 : (u.2 != 0) = false := by simp [he]
      rw [if_neg (by simpa using he)] at HV
      clear he
      go_wp2_with fail; refine bodyPost_ret (v := valV (x) false true) (by simp only [results, Try.results35, valV]; go_simp) rfl (val_end (P := RefW) RefW.keep RefW.weak HV.out HR.out HO.out)
    · have e1 : (u.2 != 0) = true := by rw [bne_iff_ne]; exact he
      rw [if_pos he] at HV
      clear he
      go_wp2_with fail; refine bodyPost_ret (v := valV (0) false false) (by simp only [results, Try.results35, valV]; go_simp) rfl (val_end (P := RefW) RefW.keep RefW.weak HV.out HR.out HO.out)
  · have HV := Lib.hid (rsVal_over ht)
    clear ht
    go_enter Try.func35, Try.ntmps35
    go_wp2_with fail
    refine HT.out.mono ?_
    rintro e w1 ⟨rfl, hR, ho⟩
    have HO1 := Lib.hid (O0.out.trans ho)
    have B1 := Lib.hid (ho.get B0.out HN.out)
    have HN1 := Lib.hid (show w.heap.size ≤ w1.heap.size from HO1.out.size)
    have HR := Lib.hid (hR.below (below_alloc (Below.refl _ _) (.cells #[.int .i64 0, .bool true] 25)))
    have HO := Lib.hid (HO1.out.alloc (.cells #[.int .i64 0, .bool true] 25))
    have hm0 := Lib.hid (keepA B1.out (.cells #[.int .i64 0, .bool true] 25))
    have hm := Lib.hid (newB w1 (.cells #[.int .i64 0, .bool true] 25))
    obtain ⟨u, hu⟩ : ∃ u, u = t := ⟨_, rfl⟩
    subst hu
    clear hR ho
    have q2 := RefW.err HR.out
    have m0 := cellAt (o := 0) hm0.out rfl
    have m1 := cellAt (o := 1) hm0.out rfl
    have f0 := freeAt 0 hm0.out
    have f1 := freeAt 1 hm0.out
    have p0 := cellAt (o := 0) hm.out rfl
    have p1 := cellAt (o := 1) hm.out rfl
    by_cases he : u.2 = 0
    · have e1 : (u.2 != 0) = false := by simp [he]
      rw [if_neg (by simpa using he)] at HV
      clear he
      go_wp2_with fail; refine bodyPost_ret (v := valV (0) true true) (by simp only [results, Try.results35, valV]; go_simp) rfl (val_end (P := RefW) RefW.keep RefW.weak HV.out HR.out HO.out)
    · have e1 : (u.2 != 0) = true := by rw [bne_iff_ne]; exact he
      rw [if_pos he] at HV
      clear he
      go_wp2_with fail; refine bodyPost_ret (v := valV (0) false false) (by simp only [results, Try.results35, valV]; go_simp) rfl (val_end (P := RefW) RefW.keep RefW.weak HV.out HR.out HO.out)
end Go.Proofs.Ytfiinceogenlmaa
