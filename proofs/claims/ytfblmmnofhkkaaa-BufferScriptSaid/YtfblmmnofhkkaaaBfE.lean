/- BufferFree: the plain law. -/
import Derived.Test.YtfblmmnofhkkaaaBfX
namespace Go.Proofs.Ytfblmmnofhkkaaa
def okA (a : ActV) : Prop := 1 ≤ a.2.1 ∧ a.2.1 ≤ 1099511627776
def ptA (a : ActV) : Pt := (a.2.1, a.2.2)
def folP (l : List ActV) : List Pt := l.foldl (fun P a => putP a.2.1 a.2.2 P 0) []
theorem folP_snoc (l : List ActV) (a : ActV) : folP (l ++ [a]) = putP a.2.1 a.2.2 (folP l) 0 := by unfold folP; rw [List.foldl_append]; rfl
/-- Acts whose times are unlike, where they may be. -/
def DistR (a b : ActV) : Prop := okA a → okA b → a.2.1 ≠ b.2.1
theorem DistR.symm {a b : ActV} (h : DistR a b) : DistR b a := fun h1 h2 e => h h2 h1 e.symm
section
variable {P Q : List Pt} {q x : Pt} {t : Int}
theorem ins_mem_iff (hn : hasT x.1 P = false) : q ∈ insP x P ↔ q = x ∨ q ∈ P := by
  constructor
  · exact ins_mem
  · rintro (rfl | h)
    · unfold insP; simp
    · have := hasT_not.1 hn q h
      unfold insP
      rw [List.mem_append, List.mem_cons, List.mem_filter, List.mem_filter]
      simp only [decide_eq_true_eq]
      rcases Int.lt_or_gt_of_ne this with h1 | h1
      · exact .inl ⟨h, h1⟩
      · exact .inr (.inr ⟨h, h1⟩)
theorem rise_ext : ∀ {P Q : List Pt}, Rise P → Rise Q → (∀ q, q ∈ P ↔ q ∈ Q) → P = Q
  | [], [], _, _, _ => rfl
  | [], y :: Q, _, _, h => by have := (h y).2 (by simp); simp at this
  | x :: P, [], _, _, h => by have := (h x).1 (by simp); simp at this
  | x :: P, y :: Q, hp, hq, h => by
    unfold Rise at hp hq
    rw [List.pairwise_cons] at hp hq
    have hxy : x = y := by
      rcases List.mem_cons.1 ((h x).1 (by simp)) with e | h1
      · exact e
      · rcases List.mem_cons.1 ((h y).2 (by simp)) with e | h2
        · exact e.symm
        · have := hq.1 x h1
          have := hp.1 y h2
          omega
    subst hxy
    congr 1
    refine rise_ext hp.2 hq.2 (fun q => ⟨fun hm => ?_, fun hm => ?_⟩)
    · rcases List.mem_cons.1 ((h q).1 (List.mem_cons_of_mem _ hm)) with e | h1
      · subst e; have := hp.1 q hm; omega
      · exact h1
    · rcases List.mem_cons.1 ((h q).2 (List.mem_cons_of_mem _ hm)) with e | h1
      · subst e; have := hq.1 q hm; omega
      · exact h1
theorem at_mem {n : Int} (hr : Rise P) (h : (t, n) ∈ P) : atP t P = (n, true) ∧ lastP t P = some (t, n) := by
  obtain ⟨A, C, rfl⟩ := List.append_of_mem h
  unfold Rise at hr
  rw [List.pairwise_append, List.pairwise_cons] at hr
  obtain ⟨_, ⟨h2, _⟩, h3⟩ := hr
  have hA : ∀ q ∈ A, q.1 < t := fun q hq => h3 q hq (t, n) (by simp)
  have hC : ∀ q ∈ C, t < q.1 := fun q hq => h2 q hq
  rw [show A ++ (t, n) :: C = A ++ [(t, n)] ++ C by simp, atP_mid hA hC, lastP_mid hA hC (fun _ => ⟨(t, n), by simp, Int.le_refl _⟩)]
  exact ⟨by simp [atP], by simp [lastP]⟩
theorem range_join {x y z : Int} (hr : Rise P) (h1 : x ≤ y) (h2 : y ≤ z) : rangeP x y P ++ rangeP y z P = rangeP x z P := by
  obtain ⟨c1, c2⟩ := rise_cutLe y hr
  have hs : P = P.take (cntLe y P) ++ P.drop (cntLe y P) := (List.take_append_drop _ _).symm
  generalize P.take (cntLe y P) = A at *
  generalize P.drop (cntLe y P) = C at *
  subst hs
  unfold rangeP
  simp only [List.filter_append]
  have e1 : C.filter (fun q => decide (x < q.1) && decide (q.1 ≤ y)) = [] := filter_no (fun q hq => by have := c2 q hq; simp; omega)
  have e2 : A.filter (fun q => decide (y < q.1) && decide (q.1 ≤ z)) = [] := filter_no (fun q hq => by have := c1 q hq; simp; omega)
  rw [e1, e2, List.append_nil, List.nil_append]
  congr 1
  · apply List.filter_congr
    intro q hq
    have := c1 q hq
    have e : decide (q.1 ≤ y) = true := by simpa using this
    have e' : decide (q.1 ≤ z) = true := by simp; omega
    rw [e, e']
  · apply List.filter_congr
    intro q hq
    have := c2 q hq
    have e : decide (y < q.1) = true := by simpa using this
    have e' : decide (x < q.1) = true := by simp; omega
    rw [e, e']
end
theorem putP_bad {a : ActV} {P : List Pt} (h : ¬ okA a) : putP a.2.1 a.2.2 P 0 = P := by
  have e : putE a.2.1 P 0 = 2 := by unfold okA at h; unfold putE; rw [if_pos (by omega)]
  unfold putP
  rw [e, if_neg (by decide)]
theorem putE_ok {a : ActV} {P : List Pt} (h : okA a) (hl : P.length < 65536) : putE a.2.1 P 0 = if hasT a.2.1 P = true then 7 else 0 := by
  unfold putE okA at *
  rw [if_neg (by omega), if_neg (by omega)]
  split
  · rfl
  · rw [if_neg (by omega)]
theorem fol_inv {l : List ActV} (hd : l.Pairwise DistR) (hl : l.length ≤ 65536) : ∀ k, k ≤ l.length → Rise (folP (l.take k)) ∧ (folP (l.take k)).length ≤ k ∧ ∀ q, q ∈ folP (l.take k) ↔ ∃ a ∈ l.take k, okA a ∧ ptA a = q
  | 0, _ => ⟨List.Pairwise.nil, Nat.le_refl _, fun q => by simp [folP]⟩
  | k + 1, hk => by
    obtain ⟨h1, h2, h3⟩ := fol_inv hd hl k (by omega)
    have hkl : k < l.length := by omega
    have e : l.take (k + 1) = l.take k ++ [l[k]] := (List.take_append_getElem hkl).symm
    rw [e, folP_snoc]
    refine ⟨putP_rise h1, Nat.le_trans (putP_len h1) (by omega), fun q => ?_⟩
    by_cases ho : okA l[k]
    · have hn : hasT l[k].2.1 (folP (l.take k)) = false := hasT_not.2 (fun p hp ep => by
        obtain ⟨a, ha, hoa, rfl⟩ := (h3 p).1 hp
        obtain ⟨i, hi, rfl⟩ := List.mem_take_iff_getElem.1 ha
        exact List.pairwise_iff_getElem.1 hd i k (by omega) hkl (by omega) hoa ho ep)
      have hE := putE_ok (P := folP (l.take k)) ho (by omega)
      rw [if_neg (by rw [hn]; decide)] at hE
      unfold putP
      rw [hE, if_pos rfl, ins_mem_iff hn, h3]
      constructor
      · rintro (rfl | ⟨a, ha, hoa, rfl⟩)
        · exact ⟨l[k], List.mem_append.2 (.inr (List.mem_singleton.2 rfl)), ho, rfl⟩
        · exact ⟨a, List.mem_append.2 (.inl ha), hoa, rfl⟩
      · rintro ⟨a, ha, hoa, rfl⟩
        rcases List.mem_append.1 ha with ha | ha
        · exact .inr ⟨a, ha, hoa, rfl⟩
        · simp at ha; subst ha; exact .inl rfl
    · rw [putP_bad ho, h3]
      constructor
      · rintro ⟨a, ha, hoa, rfl⟩
        exact ⟨a, List.mem_append.2 (.inl ha), hoa, rfl⟩
      · rintro ⟨a, ha, hoa, rfl⟩
        rcases List.mem_append.1 ha with ha | ha
        · exact ⟨a, ha, hoa, rfl⟩
        · simp at ha; subst ha; exact absurd hoa ho
/-- Nothing was there yet, at any step up to the k-th. -/
def NoT (l : List ActV) (k : Nat) : Prop := ∀ j (h : j < l.length), j < k → putE l[j].2.1 (folP (l.take j)) 0 ≠ 7
theorem not_dist {l : List ActV} (hl : l.length ≤ 65536) (hn : NoT l l.length) : ∀ k, k ≤ l.length → (l.take k).Pairwise DistR
  | 0, _ => by simp
  | k + 1, hk => by
    have ih := not_dist hl hn k (by omega)
    have hkl : k < l.length := by omega
    have e : l.take (k + 1) = l.take k ++ [l[k]] := (List.take_append_getElem hkl).symm
    have hlk : (l.take k).length = k := by rw [List.length_take]; omega
    obtain ⟨_, h2, h3⟩ := fol_inv ih (by omega) k (by omega)
    rw [List.take_take, Nat.min_self] at h2 h3
    rw [e, List.pairwise_append]
    refine ⟨ih, List.pairwise_singleton _ _, fun a ha b hb => ?_⟩
    obtain rfl := List.mem_singleton.1 hb
    intro hoa hob et
    have hm : ptA a ∈ folP (l.take k) := (h3 _).2 ⟨a, ha, hoa, rfl⟩
    have hh : hasT l[k].2.1 (folP (l.take k)) = true := hasT_iff.2 ⟨_, hm, et⟩
    have := putE_ok (P := folP (l.take k)) hob (by omega)
    rw [if_pos hh] at this
    exact hn k hkl hkl this
/-- THE LAW: the order of the points does not matter. -/
theorem free_same {l m : List ActV} (hl : l.length ≤ 65536) (hn : NoT l l.length) (hp : l.Perm m) : folP l = folP m ∧ Rise (folP l) ∧ (folP l).length ≤ l.length ∧ ∀ a ∈ l, okA a → ptA a ∈ folP l := by
  have hd : l.Pairwise DistR := by have := not_dist hl hn l.length (Nat.le_refl _); rwa [List.take_length] at this
  have hd' : m.Pairwise DistR := (hp.pairwise_iff (fun h => h.symm)).1 hd
  have h1 := fol_inv hd hl l.length (Nat.le_refl _)
  have h2 := fol_inv hd' (by rw [← hp.length_eq]; exact hl) m.length (Nat.le_refl _)
  rw [List.take_length] at h1 h2
  refine ⟨rise_ext h1.1 h2.1 (fun q => ?_), h1.1, h1.2.1, fun a ha ho => (h1.2.2 _).2 ⟨a, ha, ho, rfl⟩⟩
  rw [h1.2.2, h2.2.2]
  constructor
  · rintro ⟨a, ha, hh⟩; exact ⟨a, hp.mem_iff.1 ha, hh⟩
  · rintro ⟨a, ha, hh⟩; exact ⟨a, hp.mem_iff.2 ha, hh⟩
/-- Two places of a list changed. -/
def swapA (m : List ActV) (i n : Nat) (h : i < m.length) (k : n < m.length) : List ActV := (m.set i m[n]).set n m[i]
theorem swapA_len (m : List ActV) (i n : Nat) (h : i < m.length) (k : n < m.length) : (swapA m i n h k).length = m.length := by unfold swapA; simp
theorem swapA_perm (m : List ActV) (i n : Nat) (h : i < m.length) (k : n < m.length) : m.Perm (swapA m i n h k) := by
  unfold swapA
  exact (List.set_set_perm h k).symm
end Go.Proofs.Ytfblmmnofhkkaaa
