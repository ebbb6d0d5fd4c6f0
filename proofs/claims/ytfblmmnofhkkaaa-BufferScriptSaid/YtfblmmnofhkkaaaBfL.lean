/- A buffer as a list of points: plain law. -/
import Derived.Test.YtfblmmnofhkkaaaBfA
namespace Go.Proofs.Ytfblmmnofhkkaaa
/-- The number at a time. -/
def atP (t : Int) (P : List Pt) : Int × Bool := match P.find? (fun q => decide (q.1 = t)) with | some q => (q.2, true) | none => (0, false)
/-- The last point at or before a time. -/
def lastP (t : Int) (P : List Pt) : Option Pt := (P.filter (fun q => decide (q.1 ≤ t))).getLast?
/-- Those above a time. -/
def aboveP (t : Int) (P : List Pt) : List Pt := P.filter (fun q => decide (t < q.1))
/-- Those above a time, up to another one. -/
def rangeP (t u : Int) (P : List Pt) : List Pt := P.filter (fun q => decide (t < q.1) && decide (q.1 ≤ u))
/-- A point put among others. -/
def insP (q : Pt) (P : List Pt) : List Pt := P.filter (fun p => decide (p.1 < q.1)) ++ q :: P.filter (fun p => decide (q.1 < p.1))
section
variable {t : Int} {A X C P : List Pt}
theorem hasT_iff : hasT t P = true ↔ ∃ q ∈ P, q.1 = t := by simp [hasT]
theorem hasT_not : hasT t P = false ↔ ∀ q ∈ P, q.1 ≠ t := by simp [hasT]
theorem find_none (h : ∀ q ∈ A, q.1 ≠ t) : A.find? (fun q => decide (q.1 = t)) = none := List.find?_eq_none.2 (fun q hq => by simpa using h q hq)
theorem hasT_mid (hA : ∀ q ∈ A, q.1 < t) (hC : ∀ q ∈ C, t < q.1) : hasT t (A ++ X ++ C) = hasT t X := by
  unfold hasT
  rw [List.any_append, List.any_append]
  have h1 : A.any (fun q => decide (q.1 = t)) = false := by simp; intro a b hq; have := hA _ hq; simp at this; omega
  have h2 : C.any (fun q => decide (q.1 = t)) = false := by simp; intro a b hq; have := hC _ hq; simp at this; omega
  rw [h1, h2]; simp
theorem atP_mid (hA : ∀ q ∈ A, q.1 < t) (hC : ∀ q ∈ C, t < q.1) : atP t (A ++ X ++ C) = atP t X := by
  unfold atP
  rw [List.find?_append, List.find?_append, find_none (A := A) (fun q hq => by have := hA q hq; omega), find_none (A := C) (fun q hq => by have := hC q hq; omega)]
  cases X.find? (fun q => decide (q.1 = t)) <;> rfl
theorem filter_all {f : Pt → Bool} (h : ∀ q ∈ A, f q = true) : A.filter f = A := List.filter_eq_self.2 h
theorem filter_no {f : Pt → Bool} (h : ∀ q ∈ A, f q = false) : A.filter f = [] := List.filter_eq_nil_iff.2 (fun q hq => by simp [h q hq])
theorem lastP_mid (hA : ∀ q ∈ A, q.1 < t) (hC : ∀ q ∈ C, t < q.1) (hx : A ≠ [] → ∃ q ∈ X, q.1 ≤ t) : lastP t (A ++ X ++ C) = lastP t X := by
  unfold lastP
  rw [List.filter_append, List.filter_append, filter_all (A := A) (fun q hq => by have := hA q hq; simp; omega), filter_no (A := C) (fun q hq => by have := hC q hq; simp; omega), List.append_nil]
  cases A with
  | nil => rfl
  | cons a A =>
    obtain ⟨q, hq, hle⟩ := hx (by simp)
    have hne : X.filter (fun q => decide (q.1 ≤ t)) ≠ [] := List.ne_nil_of_mem (List.mem_filter.2 ⟨hq, by simpa using hle⟩)
    obtain ⟨Y, y, hY⟩ := List.eq_nil_or_concat (X.filter (fun q => decide (q.1 ≤ t))) |>.resolve_left hne
    rw [hY, List.concat_eq_append, ← List.append_assoc, List.getLast?_concat, List.getLast?_concat]
theorem aboveP_mid (hA : ∀ q ∈ A, q.1 ≤ t) : aboveP t (A ++ X) = aboveP t X := by
  unfold aboveP
  rw [List.filter_append, filter_no (A := A) (fun q hq => by have := hA q hq; simp; omega), List.nil_append]
theorem insP_mid {q : Pt} (hA : ∀ p ∈ A, p.1 < q.1) (hC : ∀ p ∈ C, q.1 < p.1) : insP q (A ++ X ++ C) = A ++ insP q X ++ C := by
  unfold insP
  simp only [List.filter_append]
  rw [filter_all (A := A) (fun p hp => by have := hA p hp; simp; omega), filter_no (A := C) (f := fun p => decide (p.1 < q.1)) (fun p hp => by have := hC p hp; simp; omega),
    filter_no (A := A) (f := fun p => decide (q.1 < p.1)) (fun p hp => by have := hA p hp; simp; omega), filter_all (A := C) (fun p hp => by have := hC p hp; simp; omega)]
  simp
end
/-! ### Rising points cut at a time -/
section
variable {t : Int} {P : List Pt}
/-- How many stand at or before a time. -/
def cntLe (t : Int) (P : List Pt) : Nat := if hasT t P = true then cntLt t (tms P) + 1 else cntLt t (tms P)
theorem tms_len (P : List Pt) : (tms P).length = P.length := by simp
theorem hasT_at (hr : Rise P) (h : hasT t P = true) : ∃ k, cntLt t (tms P) = k ∧ ∃ hl : k < P.length, P[k].1 = t := by
  rw [← found_has hr] at h
  simp only [Bool.and_eq_true, decide_eq_true_eq] at h
  exact ⟨_, rfl, h.1, by rw [← ksAt_tms h.1]; exact h.2⟩
theorem cntLe_le (hr : Rise P) : cntLe t P ≤ P.length := by
  unfold cntLe
  have := cntLt_le t (tms P)
  rw [tms_len] at this
  split
  · rename_i h
    obtain ⟨k, hk, hl, _⟩ := hasT_at hr h; omega
  · exact this
theorem rise_cutLe (t : Int) (hr : Rise P) : (∀ q ∈ P.take (cntLe t P), q.1 ≤ t) ∧ (∀ q ∈ P.drop (cntLe t P), t < q.1) := by
  obtain ⟨h1, h2⟩ := rise_cut t hr
  have hp := List.pairwise_iff_getElem.1 hr
  unfold cntLe
  by_cases hh : hasT t P = true
  · obtain ⟨k, hk, hl, he⟩ := hasT_at hr hh
    rw [if_pos hh]
    rw [hk] at h1 h2 ⊢
    constructor
    · intro q hq
      obtain ⟨j, hj, rfl⟩ := List.mem_take_iff_getElem.1 hq
      rcases Nat.lt_or_eq_of_le (show j ≤ k by omega) with h | rfl
      · have := hp j k (by omega) hl h; omega
      · omega
    · intro q hq
      obtain ⟨j, hj, rfl⟩ := List.mem_drop_iff_getElem.1 hq
      have := hp k (k + 1 + j) hl (by omega) (by omega); omega
  · rw [if_neg hh]
    refine ⟨fun q hq => Int.le_of_lt (h1 q hq), fun q hq => ?_⟩
    have h3 := h2 q hq
    have h4 := hasT_not.1 (by simpa using hh) q (List.mem_of_mem_drop hq)
    omega
theorem filter_le (hr : Rise P) : P.filter (fun q => decide (q.1 ≤ t)) = P.take (cntLe t P) := by
  obtain ⟨h1, h2⟩ := rise_cutLe t hr
  conv => lhs; rw [← List.take_append_drop (cntLe t P) P]
  rw [List.filter_append, filter_all (fun q hq => by simpa using h1 q hq), filter_no (fun q hq => by have := h2 q hq; simp; omega), List.append_nil]
theorem above_drop (hr : Rise P) : aboveP t P = P.drop (cntLe t P) := by
  obtain ⟨h1, h2⟩ := rise_cutLe t hr
  unfold aboveP
  conv => lhs; rw [← List.take_append_drop (cntLe t P) P]
  rw [List.filter_append, filter_no (fun q hq => by have := h1 q hq; simp; omega), filter_all (fun q hq => by simpa using h2 q hq), List.nil_append]
theorem ins_cut {q : Pt} (hr : Rise P) (hn : hasT q.1 P = false) : insP q P = P.take (cntLt q.1 (tms P)) ++ q :: P.drop (cntLt q.1 (tms P)) := by
  obtain ⟨h1, h2⟩ := rise_cut q.1 hr
  have h3 := hasT_not.1 hn
  unfold insP
  have e1 : P.filter (fun p => decide (p.1 < q.1)) = P.take (cntLt q.1 (tms P)) := by
    conv => lhs; rw [← List.take_append_drop (cntLt q.1 (tms P)) P]
    rw [List.filter_append, filter_all (fun p hp => by simpa using h1 p hp), filter_no (fun p hp => by have := h2 p hp; simp; omega), List.append_nil]
  have e2 : P.filter (fun p => decide (q.1 < p.1)) = P.drop (cntLt q.1 (tms P)) := by
    conv => lhs; rw [← List.take_append_drop (cntLt q.1 (tms P)) P]
    rw [List.filter_append, filter_no (fun p hp => by have := h1 p hp; simp; omega), filter_all (fun p hp => by have := h2 p hp; have := h3 p (List.mem_of_mem_drop hp); simp; omega), List.nil_append]
  rw [e1, e2]
theorem ins_rise {q : Pt} (hr : Rise P) : Rise (insP q P) := by
  unfold Rise insP at *
  rw [List.pairwise_append, List.pairwise_cons]
  refine ⟨hr.filter _, ⟨fun p hp => ?_, hr.filter _⟩, fun a ha b hb => ?_⟩
  · simpa using (List.mem_filter.1 hp).2
  · have h1 : a.1 < q.1 := by simpa using (List.mem_filter.1 ha).2
    rcases List.mem_cons.1 hb with rfl | hb
    · exact h1
    · have h2 : q.1 < b.1 := by simpa using (List.mem_filter.1 hb).2
      omega
theorem ins_len {q : Pt} (hr : Rise P) (hn : hasT q.1 P = false) : (insP q P).length = P.length + 1 := by
  rw [ins_cut hr hn, List.length_append, List.length_cons, List.length_take, List.length_drop]
  have := cntLt_le q.1 (tms P)
  rw [tms_len] at this
  omega
theorem atP_has (hr : Rise P) : atP t P = if hasT t P = true then ((P.getD (cntLt t (tms P)) (0, 0)).2, true) else (0, false) := by
  unfold atP
  by_cases hh : hasT t P = true
  · rw [if_pos hh]
    obtain ⟨k, hk, hl, he⟩ := hasT_at hr hh
    obtain ⟨h1, _⟩ := rise_cut t hr
    rw [hk] at h1 ⊢
    have hs : P = P.take k ++ P[k] :: P.drop (k + 1) := by rw [List.getElem_cons_drop, List.take_append_drop]
    have hf : P.find? (fun q => decide (q.1 = t)) = some P[k] := by
      rw [show P.find? (fun q => decide (q.1 = t)) = (P.take k ++ P[k] :: P.drop (k + 1)).find? (fun q => decide (q.1 = t)) from congrArg _ hs]
      rw [List.find?_append, find_none (fun q hq => by have := h1 q hq; omega), List.find?_cons_of_pos (by simpa using he)]
      rfl
    rw [hf, List.getD_eq_getElem?_getD, List.getElem?_eq_getElem hl]
    rfl
  · rw [if_neg hh, find_none (hasT_not.1 (by simpa using hh))]
theorem lastP_at (hr : Rise P) : lastP t P = if cntLe t P = 0 then none else some (P.getD (cntLe t P - 1) (0, 0)) := by
  unfold lastP
  rw [filter_le hr]
  have hle := cntLe_le (t := t) hr
  by_cases h0 : cntLe t P = 0
  · rw [if_pos h0, h0]; rfl
  · rw [if_neg h0, List.getLast?_eq_getElem?, List.length_take, List.getElem?_take, if_pos (by omega), Nat.min_eq_left hle, List.getD_eq_getElem?_getD, List.getElem?_eq_getElem (by omega)]
    rfl
end
/-! ### Blocks -/
abbrev heads (Bs : List (List Pt)) : List Pt := Bs.map (fun B => B.headD (0, 0))
structure Good (Bs : List (List Pt)) : Prop where
  ne : ∀ B ∈ Bs, B ≠ []
  rise : Rise Bs.flatten
section
variable {Bs : List (List Pt)}
theorem head_mem {B : List Pt} (h : B ≠ []) : B.headD (0, 0) ∈ B := by cases B with | nil => exact absurd rfl h | cons a B => simp
theorem Good.split (h : Good Bs) : (∀ B ∈ Bs, Rise B) ∧ Bs.Pairwise (fun B C => ∀ x ∈ B, ∀ y ∈ C, x.1 < y.1) := by
  have := h.rise
  unfold Rise at this
  rw [List.pairwise_flatten] at this
  exact this
theorem Good.heads (h : Good Bs) : Rise (heads Bs) := by
  unfold Rise
  rw [List.pairwise_map]
  refine h.split.2.imp_of_mem (fun {B C} hB hC hp => hp _ (head_mem (h.ne B hB)) _ (head_mem (h.ne C hC)))
theorem head_le {B : List Pt} (hr : Rise B) {q : Pt} (hq : q ∈ B) : (B.headD (0, 0)).1 ≤ q.1 := by
  cases B with
  | nil => simp at hq
  | cons a B =>
    rcases List.mem_cons.1 hq with rfl | hq
    · exact Int.le_refl _
    · exact Int.le_of_lt ((List.pairwise_cons.1 hr).1 q hq)
theorem flat_take {k : Nat} {q : Pt} (hq : q ∈ (Bs.take k).flatten) : ∃ i, ∃ hi : i < Bs.length, i < k ∧ q ∈ Bs[i] := by
  obtain ⟨B, hB, hq⟩ := List.mem_flatten.1 hq
  obtain ⟨i, hi, rfl⟩ := List.mem_take_iff_getElem.1 hB
  exact ⟨i, by omega, by omega, hq⟩
theorem flat_drop {k : Nat} {q : Pt} (hq : q ∈ (Bs.drop k).flatten) : ∃ i, ∃ hi : i < Bs.length, k ≤ i ∧ q ∈ Bs[i] := by
  obtain ⟨B, hB, hq⟩ := List.mem_flatten.1 hq
  obtain ⟨i, hi, rfl⟩ := List.mem_drop_iff_getElem.1 hB
  exact ⟨k + i, by omega, by omega, hq⟩
/-- The block for a time: all ahead stand before it, all behind stand after it. -/
theorem locate (t : Int) (h : Good Bs) (hne : Bs ≠ []) : ∃ hk : atK t (tms (heads Bs)) < Bs.length, (∀ q ∈ (Bs.take (atK t (tms (heads Bs)))).flatten, q.1 < t) ∧ (∀ q ∈ (Bs.drop (atK t (tms (heads Bs)) + 1)).flatten, t < q.1) ∧
    (0 < atK t (tms (heads Bs)) → ∃ q ∈ Bs[atK t (tms (heads Bs))], q.1 ≤ t) := by
  have hl : 0 < Bs.length := List.length_pos_iff.2 hne
  obtain ⟨h1, h2⟩ := rise_cut t h.heads
  have hm := List.pairwise_iff_getElem.1 h.split.2
  have hle := cntLt_le t (tms (heads Bs))
  have hln : (tms (heads Bs)).length = Bs.length := by simp
  have hlh : (heads Bs).length = Bs.length := by simp
  unfold atK
  obtain ⟨c, hc⟩ : ∃ c, cntLt t (tms (heads Bs)) = c := ⟨_, rfl⟩
  rw [hln] at hle ⊢
  rw [hc] at h1 h2 hle ⊢
  have H1 : ∀ i (hi : i < Bs.length), i < c → (Bs[i].headD (0, 0)).1 < t := fun i hi hic => by
    have := h1 (heads Bs)[i] (List.mem_take_iff_getElem.2 ⟨i, by omega, rfl⟩)
    simpa using this
  have H2 : ∀ i (hi : i < Bs.length), c ≤ i → t ≤ (Bs[i].headD (0, 0)).1 := fun i hi hic => by
    have := h2 (heads Bs)[i] (List.mem_drop_iff_getElem.2 ⟨i - c, by omega, by congr 1; omega⟩)
    simpa using this
  have HH : ∀ i (hi : i < Bs.length), Bs[i].headD (0, 0) ∈ Bs[i] := fun i hi => head_mem (h.ne _ (List.getElem_mem hi))
  have HL : ∀ i (hi : i < Bs.length) q, q ∈ Bs[i] → (Bs[i].headD (0, 0)).1 ≤ q.1 := fun i hi q hq => head_le (h.split.1 _ (List.getElem_mem hi)) hq
  by_cases hf : (decide (c < Bs.length) && decide (ksAt (tms (heads Bs)) c = t)) = true
  · rw [if_pos hf]
    simp only [Bool.and_eq_true, decide_eq_true_eq] at hf
    obtain ⟨hcl, hct⟩ := hf
    rw [ksAt_tms (by omega)] at hct
    simp only [List.getElem_map] at hct
    refine ⟨hcl, fun q hq => ?_, fun q hq => ?_, fun _ => ⟨_, HH c hcl, by omega⟩⟩
    · obtain ⟨i, hi, hik, hq⟩ := flat_take hq
      have := hm i c hi hcl hik q hq _ (HH c hcl); omega
    · obtain ⟨i, hi, hik, hq⟩ := flat_drop hq
      have := hm c i hcl hi (by omega) _ (HH c hcl) q hq; omega
  · rw [if_neg hf]
    have hf' : ∀ hcl : c < Bs.length, t < (Bs[c].headD (0, 0)).1 := fun hcl => by
      have h3 := H2 c hcl (Nat.le_refl _)
      have : (Bs[c].headD (0, 0)).1 ≠ t := fun e => hf (by
        simp only [Bool.and_eq_true, decide_eq_true_eq]
        refine ⟨hcl, ?_⟩
        rw [ksAt_tms (by omega)]
        simpa using e)
      omega
    rcases Nat.eq_zero_or_pos c with rfl | h0
    · refine ⟨hl, fun q hq => by simp at hq, fun q hq => ?_, fun h => absurd h (by omega)⟩
      obtain ⟨i, hi, hik, hq⟩ := flat_drop hq
      have := hm 0 i hl hi (by omega) _ (HH 0 hl) q hq
      have := hf' hl; omega
    · refine ⟨by omega, fun q hq => ?_, fun q hq => ?_, fun _ => ⟨_, HH (c - 1) (by omega), Int.le_of_lt (H1 _ (by omega) (by omega))⟩⟩
      · obtain ⟨i, hi, hik, hq⟩ := flat_take hq
        have := hm i (c - 1) hi (by omega) hik q hq _ (HH (c - 1) (by omega))
        have := H1 (c - 1) (by omega) (by omega); omega
      · obtain ⟨i, hi, hik, hq⟩ := flat_drop hq
        have hcl : c < Bs.length := by omega
        have h4 := hf' hcl
        have h5 := HL i hi q hq
        rcases Nat.lt_or_eq_of_le (show c ≤ i by omega) with hlt | rfl
        · have := hm c i hcl hi hlt _ (HH c hcl) _ (HH i hi); omega
        · omega
theorem flat_at (k : Nat) (hk : k < Bs.length) : Bs.flatten = (Bs.take k).flatten ++ Bs[k] ++ (Bs.drop (k + 1)).flatten := by
  conv => lhs; rw [← List.take_append_drop k Bs, ← List.getElem_cons_drop hk]
  rw [List.flatten_append, List.flatten_cons, List.append_assoc]
end
end Go.Proofs.Ytfblmmnofhkkaaa
