/- A slide that is read: plain law. -/
import Derived.Test.YtbhkgnhgecchcaaRdc
import Derived.Test.YtbhkgnhgecchcaaSlU
namespace Go.Proofs.Ytbhkgnhgecchcaa
open Go.RowKit
/-! ### A number's bytes are its own -/
theorem leB_leV : ∀ u : List UInt8, (∀ h : u ≠ [], u.getLast h ≠ 0) → leB (leV u) = u
  | [], _ => by rw [leV, leB_zero]
  | x :: v, h => by
    have hx := x.toNat_lt
    by_cases hv : v = []
    · subst hv
      have h0 : x ≠ 0 := h (by simp)
      have h1 : 0 < x.toNat := by
        rcases Nat.eq_zero_or_pos x.toNat with e | e
        · exact absurd (UInt8.toNat_inj.1 (by simpa using e)) h0
        · exact e
      have e : leV [x] = x.toNat := by simp [leV]
      rw [e, leB_pos h1, show x.toNat / 256 = 0 by omega, leB_zero]
      simp
    · have ih := leB_leV v (fun hv' => by have := h (by simp); rwa [List.getLast_cons hv'] at this)
      have hp : 0 < leV v := by
        rcases Nat.eq_zero_or_pos (leV v) with e | e
        · rw [e, leB_zero] at ih; exact absurd ih.symm hv
        · exact e
      have e : leV (x :: v) = x.toNat + 256 * leV v := rfl
      rw [e, leB_pos (by omega), show (x.toNat + 256 * leV v) / 256 = leV v by omega, ih]
      congr 1
      apply UInt8.toNat_inj.1
      rw [UInt8.toNat_ofNat']; omega
theorem rdNum_own {l : List UInt8} (h : (rdNum l).2.2 = 0) : numB (rdNum l).1 ++ l.drop (rdNum l).2.1 = l ∧ 1 ≤ (rdNum l).2.1 := by
  unfold rdNum at h ⊢
  split at h
  · simp at h
  · rename_i b t
    split at h
    · simp at h
    · rename_i h8
      split at h
      · simp at h
      · rename_i hlen
        split at h
        · simp at h
        · rename_i hz
          rw [if_neg h8, if_neg hlen, if_neg hz]
          simp only
          have hu : leB (leV (t.take b.toNat)) = t.take b.toNat := leB_leV _ (fun hne => by
            have hb : 0 < b.toNat := by
              rcases Nat.eq_zero_or_pos b.toNat with e | e
              · rw [e] at hne; simp at hne
              · exact e
            have hz' : t.getD (b.toNat - 1) 0 ≠ 0 := fun e => hz ⟨hb, e⟩
            have hl : (t.take b.toNat).length = b.toNat := by rw [List.length_take]; omega
            rw [List.getLast_eq_getElem]
            rw [List.getD_eq_getElem?_getD, List.getElem?_eq_getElem (by omega : b.toNat - 1 < t.length)] at hz'
            simpa [hl] using hz')
          refine ⟨?_, by omega⟩
          have hb8 : (t.take b.toNat).length = b.toNat := by rw [List.length_take]; omega
          unfold numB
          rw [hu, hb8, Nat.add_comm 1, List.drop_succ_cons, List.cons_append, List.take_append_drop]
          congr 1
          apply UInt8.toNat_inj.1
          rw [UInt8.toNat_ofNat']; have := b.toNat_lt; omega
theorem rsNum_own {s : Rst} (h : (rsNum s).2.2 = 0) : s.2 = 0 ∧ s.1 = numB (rsNum s).1 ++ (rsNum s).2.1 ∧ (rsNum s).2.1.length + 1 ≤ s.1.length := by
  unfold rsNum rsOf at h ⊢
  split at h
  · exact absurd h (by assumption)
  · rename_i hs
    split at h
    · exact absurd h (by assumption)
    · rename_i hr
      simp only [ne_eq, Decidable.not_not] at hs hr
      have := rdNum_own hr
      rw [if_neg (by simp [hs]), if_neg (by simp [hr])]
      refine ⟨hs, this.1.symm, ?_⟩
      have hl := rdNum_len s.1
      simp only [List.length_drop]; omega
theorem rsCount_own {m : Nat} {s : Rst} (h : (rsCount m s).2.2 = 0) : rsCount m s = rsNum s ∧ (rsNum s).1 ≤ m := by
  unfold rsCount rsNum rsOf at *
  split at h
  · exact absurd h (by assumption)
  · rename_i hs
    split at h
    · exact absurd h (by assumption)
    · rename_i hr
      simp only [ne_eq, Decidable.not_not] at hs hr
      rw [if_neg (by simp [hs]), if_neg (by simp [hr])]
      unfold rdCount at hr ⊢
      split at hr
      · rename_i he; exact absurd hr he
      · rename_i he
        split at hr
        · simp at hr
        · rename_i hm
          rw [if_neg he, if_neg hm, if_neg (by simp [hs]), if_neg he]
          exact ⟨rfl, by omega⟩
/-! ### A slide -/
def rdPts (t lo : Int) : Nat → Int → Rst → Option (List Pt × Rst)
  | 0, _, s => some ([], s)
  | n + 1, a, s => if (rsSigned (rsNum s).2).2.2 ≠ 0 ∨ cutN 1099511627777 (rsNum s).1 < 1 ∨ t < a + (cutN 1099511627777 (rsNum s).1 : Nat) ∨ a + (cutN 1099511627777 (rsNum s).1 : Nat) ≤ lo then none
    else (rdPts t lo n (a + (cutN 1099511627777 (rsNum s).1 : Nat)) (rsSigned (rsNum s).2).2).map fun r => ((a + (cutN 1099511627777 (rsNum s).1 : Nat), (rsSigned (rsNum s).2).1) :: r.1, r.2)
abbrev RdS := Int × Int × Int × List Pt
def rdTail (fn span t : Int) : Option (List Pt × Rst) → Option RdS
  | none => none
  | some (P, s) => if rsEnd s ≠ 0 then none else some (fn, span, t, P)
def rdSl (m : Nat) (b : List UInt8) : Option RdS :=
  if ¬ okNew (rsNum (b, 0)).1 (rsNum (rsNum (b, 0)).2).1 ∨ 1099511627776 < (rsNum (rsNum (rsNum (b, 0)).2).2).1 ∨ (rsCount m (rsNum (rsNum (rsNum (b, 0)).2).2).2).2.2 ≠ 0 then none
  else rdTail (rsNum (b, 0)).1 (rsNum (rsNum (b, 0)).2).1 (rsNum (rsNum (rsNum (b, 0)).2).2).1 (rdPts (rsNum (rsNum (rsNum (b, 0)).2).2).1 ((rsNum (rsNum (rsNum (b, 0)).2).2).1 - (rsNum (rsNum (b, 0)).2).1) (rsCount m (rsNum (rsNum (rsNum (b, 0)).2).2).2).1 0 (rsCount m (rsNum (rsNum (rsNum (b, 0)).2).2).2).2)
theorem rsSigned_own {s : Rst} (h : (rsSigned s).2.2 = 0) : s.2 = 0 ∧ s.1 = numB (zz (rsSigned s).1) ++ (rsSigned s).2.1 ∧ (rsSigned s).2.1.length + 1 ≤ s.1.length := by
  have h' : (rsNum s).2.2 = 0 := h
  obtain ⟨h1, h2, h3⟩ := rsNum_own h'
  refine ⟨h1, ?_, h3⟩
  have e : zz (rsSigned s).1 = (rsNum s).1 := by
    show zz (unzz (rsNum s).1) = _
    unfold zz unzz; split <;> split <;> omega
  rw [e]; exact h2
/-- What is read, is what was told. -/
theorem rdPts_own {t lo : Int} : ∀ (n : Nat) (a : Int) (s : Rst) (P : List Pt) (s' : Rst), rdPts t lo n a s = some (P, s') → t ≤ 1099511627776 → 0 ≤ a →
    (s.2 = 0 → s'.2 = 0) ∧ s.1 = ptsB a P ++ s'.1 ∧ P.length = n ∧ s'.1.length + 2 * n ≤ s.1.length ∧ Rise P ∧ (∀ p ∈ P, a < p.1 ∧ p.1 ≤ t ∧ lo < p.1 ∧ In64 p.2)
  | 0, a, s, P, s', h, _, _ => by
    simp only [rdPts, Option.some.injEq, Prod.mk.injEq] at h
    obtain ⟨rfl, rfl⟩ := h
    refine ⟨fun h => h, by simp [ptsB], rfl, by omega, List.Pairwise.nil, by simp⟩
  | n + 1, a, s, P, s', h, ht, ha => by
    unfold rdPts at h
    split at h
    · cases h
    · rename_i hc
      simp only [not_or, Decidable.not_not, Int.not_lt, Int.not_le, ne_eq] at hc
      obtain ⟨h1, h2, h3, h4⟩ := hc
      obtain ⟨k1, k2, k3⟩ := rsSigned_own h1
      obtain ⟨g1, g2, g3⟩ := rsNum_own k1
      have hcut : cutN 1099511627777 (rsNum s).1 = (rsNum s).1 := by
        unfold cutN at h3 ⊢
        split
        · rfl
        · rename_i hx; rw [if_neg hx] at h3; omega
      rw [hcut] at h h2 h3 h4
      cases hr : rdPts t lo n (a + ((rsNum s).1 : Nat)) (rsSigned (rsNum s).2).2 with
      | none => rw [hr] at h; cases h
      | some r =>
        obtain ⟨Q, s1⟩ := r
        rw [hr] at h
        simp only [Option.map_some, Option.some.injEq, Prod.mk.injEq] at h
        obtain ⟨rfl, rfl⟩ := h
        obtain ⟨j1, j2, j3, j4, j5, j6⟩ := rdPts_own n _ _ Q s1 hr ht (by omega)
        refine ⟨fun _ => j1 h1, ?_, by simp [j3], by omega, ?_, fun p hp => ?_⟩
        · simp only [ptsB]
          rw [show (a + ((rsNum s).1 : Nat) - a).toNat = (rsNum s).1 by omega, List.append_assoc, List.append_assoc, ← j2, ← k2, ← g2]
        · unfold Rise
          rw [List.pairwise_cons]
          exact ⟨fun q hq => (j6 q hq).1, j5⟩
        · rcases List.mem_cons.1 hp with rfl | hp
          · exact ⟨by simp only; omega, h3, h4, unzz_in (rsNum_64 _)⟩
          · have := j6 p hp
            exact ⟨by omega, this.2⟩
theorem rsEnd_zero {s : Rst} (h : rsEnd s = 0) : s = ([], 0) := by
  unfold rsEnd at h
  split at h
  · exact absurd h (by assumption)
  · rename_i h2
    split at h
    · simp at h
    · obtain ⟨l, e⟩ := s
      simp only [ne_eq, Decidable.not_not] at h2
      have : l = [] := List.eq_nil_of_length_eq_zero (by simp only at *; omega)
      simp only at *
      rw [this, h2]
structure RdOk (m : Nat) (b : List UInt8) (fn span t : Int) (P : List Pt) : Prop where
  ok : okNew fn span
  t0 : 0 ≤ t
  t1 : t ≤ 1099511627776
  bytes : slB fn span t P = b
  most : P.length ≤ m
  len : P.length ≤ b.length
  sane : Sane P
  times : ∀ p ∈ P, t - span < p.1 ∧ p.1 ≤ t
theorem rdTail_some {fn span t : Int} {o : Option (List Pt × Rst)} {r : RdS} (h : rdTail fn span t o = some r) : ∃ P, o = some (P, ([], 0)) ∧ r = (fn, span, t, P) := by
  unfold rdTail at h
  split at h
  · cases h
  · rename_i P s
    split at h
    · cases h
    · rename_i he
      simp only [ne_eq, Decidable.not_not] at he
      rw [rsEnd_zero he]
      exact ⟨P, rfl, by injection h with h; exact h.symm⟩
theorem rdSl_some {m : Nat} {b : List UInt8} {fn span t : Int} {P : List Pt} (hb : b.length ≤ 1000000) (h : rdSl m b = some (fn, span, t, P)) : RdOk m b fn span t P := by
  unfold rdSl at h
  split at h
  · cases h
  · rename_i hc
    simp only [not_or, Decidable.not_not, ne_eq, Nat.not_lt] at hc
    obtain ⟨h1, h2, h3⟩ := hc
    obtain ⟨Q, ho, he⟩ := rdTail_some h
    simp only [Prod.mk.injEq] at he
    obtain ⟨rfl, rfl, rfl, rfl⟩ := he
    obtain ⟨c1, c2⟩ := rsCount_own h3
    rw [c1] at h3 ho
    obtain ⟨a1, a2, a3⟩ := rsNum_own h3
    obtain ⟨b1, b2, b3⟩ := rsNum_own a1
    obtain ⟨d1, d2, d3⟩ := rsNum_own b1
    obtain ⟨e1, e2, e3⟩ := rsNum_own d1
    obtain ⟨j1, j2, j3, j4, j5, j6⟩ := rdPts_own _ _ _ _ _ ho (by omega) (Int.le_refl _)
    simp only at d2 d3 e2 e3 j4
    refine ⟨h1, by omega, by omega, ?_, by omega, by omega, ⟨j5, fun p hp => (j6 p hp).2.2.2, fun p hp => ?_, by omega⟩, fun p hp => ⟨(j6 p hp).2.2.1, (j6 p hp).2.1⟩⟩
    · unfold slB
      rw [j3, Int.toNat_natCast, Int.toNat_natCast, Int.toNat_natCast]
      rw [List.append_nil] at j2
      rw [← j2, ← a2, ← b2, ← d2]
      exact e2.symm
    · have := j6 p hp; omega
theorem rsCount_eq (m : Nat) (s : Rst) : rsCount m s = if (rsNum s).2.2 ≠ 0 then (0, (rsNum s).2) else if m < (rsNum s).1 then (0, (s.1, 3)) else rsNum s := by
  obtain ⟨l, e⟩ := s
  have hmx : max 0 (m : Int) = (m : Int) := by omega
  by_cases he : e = 0
  · subst he
    unfold rsCount rsNum rsOf rdCount
    rw [hmx]
    by_cases h1 : (rdNum l).2.2 = 0
    · by_cases h2 : m < (rdNum l).1
      · have h3 : (m : Int) < ((rdNum l).1 : Int) := by omega
        simp [h1, h2]
      · have h3 : ¬ (m : Int) < ((rdNum l).1 : Int) := by omega
        simp [h1, h2]
    · simp [h1]
  · unfold rsCount rsNum
    rw [rsOf_stop _ _ _ he, rsOf_stop _ _ _ he, if_pos (by exact he)]
theorem rdSl_cnt {m : Nat} {b : List UInt8} (hm : b.length ≤ m) : rdSl b.length b = rdSl m b := by
  unfold rdSl
  by_cases h1 : okNew (rsNum (b, 0)).1 (rsNum (rsNum (b, 0)).2).1
  · by_cases h2 : 1099511627776 < (rsNum (rsNum (rsNum (b, 0)).2).2).1
    · rw [if_pos (.inr (.inl h2)), if_pos (.inr (.inl h2))]
    · rw [rsCount_eq, rsCount_eq]
      by_cases h3 : (rsNum (rsNum (rsNum (rsNum (b, 0)).2).2).2).2.2 ≠ 0
      · rw [if_pos h3, if_pos h3]
      · rw [if_neg h3, if_neg h3]
        by_cases h4 : b.length < (rsNum (rsNum (rsNum (rsNum (b, 0)).2).2).2).1
        · rw [if_pos h4, if_pos (.inr (.inr (by simp)))]
          by_cases h5 : m < (rsNum (rsNum (rsNum (rsNum (b, 0)).2).2).2).1
          · rw [if_pos h5, if_pos (.inr (.inr (by simp)))]
          · rw [if_neg h5, if_neg (by simp only [not_or, Decidable.not_not]; exact ⟨h1, h2, by simpa using h3⟩)]
            simp only [ne_eq, Decidable.not_not] at h3
            obtain ⟨a1, a2, a3⟩ := rsNum_own h3
            obtain ⟨b1, b2, b3⟩ := rsNum_own a1
            obtain ⟨d1, d2, d3⟩ := rsNum_own b1
            obtain ⟨e1, e2, e3⟩ := rsNum_own d1
            simp only at e3
            generalize hr : rdPts _ _ _ _ _ = o
            cases o with
            | none => rfl
            | some r =>
              obtain ⟨P, s'⟩ := r
              have := rdPts_own _ _ _ _ _ hr (by omega) (Int.le_refl _)
              omega
        · have h5 : ¬ m < (rsNum (rsNum (rsNum (rsNum (b, 0)).2).2).2).1 := by omega
          rw [if_neg h4, if_neg h5]
  · rw [if_pos (.inl h1), if_pos (.inl h1)]
theorem rsNum_numB {n : Nat} (h : N64 n) (m : List UInt8) : rsNum (numB n ++ m, 0) = (n, (m, 0)) := by
  unfold rsNum rsOf
  rw [rdNum_numB h m]
  simp
theorem rsSigned_zz {x : Int} (h : In64 x) (m : List UInt8) : rsSigned (numB (zz x) ++ m, 0) = (x, (m, 0)) := by
  unfold rsSigned
  rw [rsNum_numB (zz_64 h.1 h.2) m]
  simp [unzz_zz]
theorem rdPts_back {t lo : Int} (ht : t ≤ 1099511627776) : ∀ (P : List Pt) (a : Int) (m : List UInt8), Rise P → (∀ p ∈ P, a < p.1 ∧ p.1 ≤ t ∧ lo < p.1 ∧ In64 p.2) → 0 ≤ a → rdPts t lo P.length a (ptsB a P ++ m, 0) = some (P, (m, 0))
  | [], _, _, _, _, _ => by simp [rdPts, ptsB]
  | p :: P, a, m, hr, hp, ha => by
    obtain ⟨h1, h2, h3, h4⟩ := hp p (by simp)
    unfold Rise at hr
    rw [List.pairwise_cons] at hr
    have hd : N64 (p.1 - a).toNat := by unfold N64; omega
    have hc : cutN 1099511627777 (p.1 - a).toNat = (p.1 - a).toNat := if_pos (by omega)
    rw [List.length_cons, rdPts]
    simp only [ptsB, List.append_assoc]
    rw [rsNum_numB hd, rsSigned_zz h4, hc, show a + ((p.1 - a).toNat : Nat) = p.1 by omega]
    rw [if_neg (by simp only [ne_eq, not_true_eq_false, false_or, not_or]; omega)]
    rw [rdPts_back ht P p.1 m hr.2 (fun q hq => ⟨hr.1 q hq, (hp q (List.mem_cons_of_mem _ hq)).2⟩) (by omega)]
    rfl
theorem rdSl_back {m : Nat} {fn span t : Int} {P : List Pt} (hk : okNew fn span) (h0 : 0 ≤ t) (h1 : t ≤ 1099511627776) (hP : Sane P) (ht : ∀ p ∈ P, t - span < p.1 ∧ p.1 ≤ t) (hm : P.length ≤ m) : rdSl m (slB fn span t P) = some (fn, span, t, P) := by
  have hk' := hk
  unfold okNew at hk'
  obtain ⟨f, rfl⟩ := Int.eq_ofNat_of_zero_le (show 0 ≤ fn by omega)
  obtain ⟨s, rfl⟩ := Int.eq_ofNat_of_zero_le (show 0 ≤ span by omega)
  obtain ⟨t, rfl⟩ := Int.eq_ofNat_of_zero_le h0
  have hl := hP.len
  have e1 : N64 f := by unfold N64; omega
  have e2 : N64 s := by unfold N64; omega
  have e3 : N64 t := by unfold N64; omega
  have e4 : N64 P.length := by unfold N64; omega
  have hb : ∀ m', rdCount m (numB P.length ++ m') = (P.length, (numB P.length).length, 0) := fun m' => by
    unfold rdCount
    rw [rdNum_numB e4 m', if_neg (by simp), if_neg (by simp only; omega)]
  have hcn : rsCount m (numB P.length ++ ptsB 0 P, 0) = (P.length, (ptsB 0 P, 0)) := by
    unfold rsCount rsOf
    rw [hb]; simp
  unfold slB rdSl
  rw [Int.toNat_natCast, Int.toNat_natCast, Int.toNat_natCast]
  simp only [rsNum_numB e1, rsNum_numB e2, rsNum_numB e3, hcn]
  rw [if_neg (by simp only [not_or, Decidable.not_not, ne_eq, not_true_eq_false, not_false_eq_true, and_true]; exact ⟨hk, by omega⟩)]
  have := rdPts_back (t := t) (lo := (t : Int) - s) h1 P 0 [] hP.rise (fun p hp => ⟨by have := (hP.times p hp).1; omega, (ht p hp).2, (ht p hp).1, hP.nums p hp⟩) (Int.le_refl _)
  rw [List.append_nil] at this
  rw [this]
  simp [rdTail, rsEnd]
end Go.Proofs.Ytbhkgnhgecchcaa
