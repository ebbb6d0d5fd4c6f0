/- Parts of the proof: BfL MhL BfQ Lst. -/
import Derived.Test.YtangcgfchalnaaaYae
import Derived.Test.YtangcgfchalnaaaYac
/- A buffer as a list of points: plain law. -/
namespace Go.Proofs.Ytangcgfchalnaaa
/-- The number at a time. -/
def atP (t : Int) (P : List Pt) : Int × Bool := match P.find? (fun q => decide (q.1 = t)) with | some q => (q.2, true) | none => (0, false)
/-- The last point at or before a time. -/
def lastP (t : Int) (P : List Pt) : Option Pt := (P.filter (fun q => decide (q.1 ≤ t))).getLast?
/-- Those above a time. -/
def aboveP (t : Int) (P : List Pt) : List Pt := P.filter (fun q => decide (t < q.1))
/-- Those above a time, up to another one. -/
def rangeP (t u : Int) (P : List Pt) : List Pt := P.filter (fun q => decide (t < q.1) && decide (q.1 ≤ u))
/-- A point put among others. -/
def insP (q : Pt) (P : List Pt) : List Pt := P.filter (fun p => decide (p.1 < q.1)) ++ q :: P.filter (fun p => decide (q.1 < p.1))
section
variable {t : Int} {A X C P : List Pt}
theorem hasT_iff : hasT t P = true ↔ ∃ q ∈ P, q.1 = t := by simp [hasT]
theorem hasT_not : hasT t P = false ↔ ∀ q ∈ P, q.1 ≠ t := by simp [hasT]
theorem find_none (h : ∀ q ∈ A, q.1 ≠ t) : A.find? (fun q => decide (q.1 = t)) = none := List.find?_eq_none.2 (fun q hq => by simpa using h q hq)
theorem hasT_mid (hA : ∀ q ∈ A, q.1 < t) (hC : ∀ q ∈ C, t < q.1) : hasT t (A ++ X ++ C) = hasT t X := by
  unfold hasT
  rw [List.any_append, List.any_append]
  have h1 : A.any (fun q => decide (q.1 = t)) = false := by simp; intro a b hq; have := hA _ hq; simp at this; omega
  have h2 : C.any (fun q => decide (q.1 = t)) = false := by simp; intro a b hq; have := hC _ hq; simp at this; omega
  rw [h1, h2]; simp
theorem atP_mid (hA : ∀ q ∈ A, q.1 < t) (hC : ∀ q ∈ C, t < q.1) : atP t (A ++ X ++ C) = atP t X := by
  unfold atP
  rw [List.find?_append, List.find?_append, find_none (A := A) (fun q hq => by have := hA q hq; omega), find_none (A := C) (fun q hq => by have := hC q hq; omega)]
  cases X.find? (fun q => decide (q.1 = t)) <;> rfl
theorem filter_all {f : Pt → Bool} (h : ∀ q ∈ A, f q = true) : A.filter f = A := List.filter_eq_self.2 h
theorem filter_no {f : Pt → Bool} (h : ∀ q ∈ A, f q = false) : A.filter f = [] := List.filter_eq_nil_iff.2 (fun q hq => by simp [h q hq])
theorem lastP_mid (hA : ∀ q ∈ A, q.1 < t) (hC : ∀ q ∈ C, t < q.1) (hx : A ≠ [] → ∃ q ∈ X, q.1 ≤ t) : lastP t (A ++ X ++ C) = lastP t X := by
  unfold lastP
  rw [List.filter_append, List.filter_append, filter_all (A := A) (fun q hq => by have := hA q hq; simp; omega), filter_no (A := C) (fun q hq => by have := hC q hq; simp; omega), List.append_nil]
  cases A with
  | nil => rfl
  | cons a A =>
    obtain ⟨q, hq, hle⟩ := hx (by simp)
    have hne : X.filter (fun q => decide (q.1 ≤ t)) ≠ [] := List.ne_nil_of_mem (List.mem_filter.2 ⟨hq, by simpa using hle⟩)
    obtain ⟨Y, y, hY⟩ := List.eq_nil_or_concat (X.filter (fun q => decide (q.1 ≤ t))) |>.resolve_left hne
    rw [hY, List.concat_eq_append, ← List.append_assoc, List.getLast?_concat, List.getLast?_concat]
theorem aboveP_mid (hA : ∀ q ∈ A, q.1 ≤ t) : aboveP t (A ++ X) = aboveP t X := by
  unfold aboveP
  rw [List.filter_append, filter_no (A := A) (fun q hq => by have := hA q hq; simp; omega), List.nil_append]
theorem insP_mid {q : Pt} (hA : ∀ p ∈ A, p.1 < q.1) (hC : ∀ p ∈ C, q.1 < p.1) : insP q (A ++ X ++ C) = A ++ insP q X ++ C := by
  unfold insP
  simp only [List.filter_append]
  rw [filter_all (A := A) (fun p hp => by have := hA p hp; simp; omega), filter_no (A := C) (f := fun p => decide (p.1 < q.1)) (fun p hp => by have := hC p hp; simp; omega),
    filter_no (A := A) (f := fun p => decide (q.1 < p.1)) (fun p hp => by have := hA p hp; simp; omega), filter_all (A := C) (fun p hp => by have := hC p hp; simp; omega)]
  simp
end
/-! ### Rising points cut at a time -/
section
variable {t : Int} {P : List Pt}
/-- How many stand at or before a time. -/
def cntLe (t : Int) (P : List Pt) : Nat := if hasT t P = true then cntLt t (tms P) + 1 else cntLt t (tms P)
theorem tms_len (P : List Pt) : (tms P).length = P.length := by simp
theorem hasT_at (hr : Rise P) (h : hasT t P = true) : ∃ k, cntLt t (tms P) = k ∧ ∃ hl : k < P.length, P[k].1 = t := by
  rw [← found_has hr] at h
  simp only [Bool.and_eq_true, decide_eq_true_eq] at h
  exact ⟨_, rfl, h.1, by rw [← ksAt_tms h.1]; exact h.2⟩
theorem cntLe_le (hr : Rise P) : cntLe t P ≤ P.length := by
  unfold cntLe
  have := cntLt_le t (tms P)
  rw [tms_len] at this
  split
  · rename_i h
    obtain ⟨k, hk, hl, _⟩ := hasT_at hr h; omega
  · exact this
theorem rise_cutLe (t : Int) (hr : Rise P) : (∀ q ∈ P.take (cntLe t P), q.1 ≤ t) ∧ (∀ q ∈ P.drop (cntLe t P), t < q.1) := by
  obtain ⟨h1, h2⟩ := rise_cut t hr
  have hp := List.pairwise_iff_getElem.1 hr
  unfold cntLe
  by_cases hh : hasT t P = true
  · obtain ⟨k, hk, hl, he⟩ := hasT_at hr hh
    rw [if_pos hh]
    rw [hk] at h1 h2 ⊢
    constructor
    · intro q hq
      obtain ⟨j, hj, rfl⟩ := List.mem_take_iff_getElem.1 hq
      rcases Nat.lt_or_eq_of_le (show j ≤ k by omega) with h | rfl
      · have := hp j k (by omega) hl h; omega
      · omega
    · intro q hq
      obtain ⟨j, hj, rfl⟩ := List.mem_drop_iff_getElem.1 hq
      have := hp k (k + 1 + j) hl (by omega) (by omega); omega
  · rw [if_neg hh]
    refine ⟨fun q hq => Int.le_of_lt (h1 q hq), fun q hq => ?_⟩
    have h3 := h2 q hq
    have h4 := hasT_not.1 (by simpa using hh) q (List.mem_of_mem_drop hq)
    omega
theorem filter_le (hr : Rise P) : P.filter (fun q => decide (q.1 ≤ t)) = P.take (cntLe t P) := by
  obtain ⟨h1, h2⟩ := rise_cutLe t hr
  conv => lhs; rw [← List.take_append_drop (cntLe t P) P]
  rw [List.filter_append, filter_all (fun q hq => by simpa using h1 q hq), filter_no (fun q hq => by have := h2 q hq; simp; omega), List.append_nil]
theorem above_drop (hr : Rise P) : aboveP t P = P.drop (cntLe t P) := by
  obtain ⟨h1, h2⟩ := rise_cutLe t hr
  unfold aboveP
  conv => lhs; rw [← List.take_append_drop (cntLe t P) P]
  rw [List.filter_append, filter_no (fun q hq => by have := h1 q hq; simp; omega), filter_all (fun q hq => by simpa using h2 q hq), List.nil_append]
theorem ins_cut {q : Pt} (hr : Rise P) (hn : hasT q.1 P = false) : insP q P = P.take (cntLt q.1 (tms P)) ++ q :: P.drop (cntLt q.1 (tms P)) := by
  obtain ⟨h1, h2⟩ := rise_cut q.1 hr
  have h3 := hasT_not.1 hn
  unfold insP
  have e1 : P.filter (fun p => decide (p.1 < q.1)) = P.take (cntLt q.1 (tms P)) := by
    conv => lhs; rw [← List.take_append_drop (cntLt q.1 (tms P)) P]
    rw [List.filter_append, filter_all (fun p hp => by simpa using h1 p hp), filter_no (fun p hp => by have := h2 p hp; simp; omega), List.append_nil]
  have e2 : P.filter (fun p => decide (q.1 < p.1)) = P.drop (cntLt q.1 (tms P)) := by
    conv => lhs; rw [← List.take_append_drop (cntLt q.1 (tms P)) P]
    rw [List.filter_append, filter_no (fun p hp => by have := h1 p hp; simp; omega), filter_all (fun p hp => by have := h2 p hp; have := h3 p (List.mem_of_mem_drop hp); simp; omega), List.nil_append]
  rw [e1, e2]
theorem ins_rise {q : Pt} (hr : Rise P) : Rise (insP q P) := by
  unfold Rise insP at *
  rw [List.pairwise_append, List.pairwise_cons]
  refine ⟨hr.filter _, ⟨fun p hp => ?_, hr.filter _⟩, fun a ha b hb => ?_⟩
  · simpa using (List.mem_filter.1 hp).2
  · have h1 : a.1 < q.1 := by simpa using (List.mem_filter.1 ha).2
    rcases List.mem_cons.1 hb with rfl | hb
    · exact h1
    · have h2 : q.1 < b.1 := by simpa using (List.mem_filter.1 hb).2
      omega
theorem ins_len {q : Pt} (hr : Rise P) (hn : hasT q.1 P = false) : (insP q P).length = P.length + 1 := by
  rw [ins_cut hr hn, List.length_append, List.length_cons, List.length_take, List.length_drop]
  have := cntLt_le q.1 (tms P)
  rw [tms_len] at this
  omega
theorem atP_has (hr : Rise P) : atP t P = if hasT t P = true then ((P.getD (cntLt t (tms P)) (0, 0)).2, true) else (0, false) := by
  unfold atP
  by_cases hh : hasT t P = true
  · rw [if_pos hh]
    obtain ⟨k, hk, hl, he⟩ := hasT_at hr hh
    obtain ⟨h1, _⟩ := rise_cut t hr
    rw [hk] at h1 ⊢
    have hs : P = P.take k ++ P[k] :: P.drop (k + 1) := by rw [List.getElem_cons_drop, List.take_append_drop]
    have hf : P.find? (fun q => decide (q.1 = t)) = some P[k] := by
      rw [show P.find? (fun q => decide (q.1 = t)) = (P.take k ++ P[k] :: P.drop (k + 1)).find? (fun q => decide (q.1 = t)) from congrArg _ hs]
      rw [List.find?_append, find_none (fun q hq => by have := h1 q hq; omega), List.find?_cons_of_pos (by simpa using he)]
      rfl
    rw [hf, List.getD_eq_getElem?_getD, List.getElem?_eq_getElem hl]
    rfl
  · rw [if_neg hh, find_none (hasT_not.1 (by simpa using hh))]
theorem lastP_at (hr : Rise P) : lastP t P = if cntLe t P = 0 then none else some (P.getD (cntLe t P - 1) (0, 0)) := by
  unfold lastP
  rw [filter_le hr]
  have hle := cntLe_le (t := t) hr
  by_cases h0 : cntLe t P = 0
  · rw [if_pos h0, h0]; rfl
  · rw [if_neg h0, List.getLast?_eq_getElem?, List.length_take, List.getElem?_take, if_pos (by omega), Nat.min_eq_left hle, List.getD_eq_getElem?_getD, List.getElem?_eq_getElem (by omega)]
    rfl
end
/-! ### Blocks -/
abbrev heads (Bs : List (List Pt)) : List Pt := Bs.map (fun B => B.headD (0, 0))
structure Good (Bs : List (List Pt)) : Prop where
  ne : ∀ B ∈ Bs, B ≠ []
  rise : Rise Bs.flatten
section
variable {Bs : List (List Pt)}
theorem head_mem {B : List Pt} (h : B ≠ []) : B.headD (0, 0) ∈ B := by cases B with | nil => exact absurd rfl h | cons a B => simp
theorem Good.split (h : Good Bs) : (∀ B ∈ Bs, Rise B) ∧ Bs.Pairwise (fun B C => ∀ x ∈ B, ∀ y ∈ C, x.1 < y.1) := by
  have := h.rise
  unfold Rise at this
  rw [List.pairwise_flatten] at this
  exact this
theorem Good.heads (h : Good Bs) : Rise (heads Bs) := by
  unfold Rise
  rw [List.pairwise_map]
  refine h.split.2.imp_of_mem (fun {B C} hB hC hp => hp _ (head_mem (h.ne B hB)) _ (head_mem (h.ne C hC)))
theorem head_le {B : List Pt} (hr : Rise B) {q : Pt} (hq : q ∈ B) : (B.headD (0, 0)).1 ≤ q.1 := by
  cases B with
  | nil => simp at hq
  | cons a B =>
    rcases List.mem_cons.1 hq with rfl | hq
    · exact Int.le_refl _
    · exact Int.le_of_lt ((List.pairwise_cons.1 hr).1 q hq)
theorem flat_take {k : Nat} {q : Pt} (hq : q ∈ (Bs.take k).flatten) : ∃ i, ∃ hi : i < Bs.length, i < k ∧ q ∈ Bs[i] := by
  obtain ⟨B, hB, hq⟩ := List.mem_flatten.1 hq
  obtain ⟨i, hi, rfl⟩ := List.mem_take_iff_getElem.1 hB
  exact ⟨i, by omega, by omega, hq⟩
theorem flat_drop {k : Nat} {q : Pt} (hq : q ∈ (Bs.drop k).flatten) : ∃ i, ∃ hi : i < Bs.length, k ≤ i ∧ q ∈ Bs[i] := by
  obtain ⟨B, hB, hq⟩ := List.mem_flatten.1 hq
  obtain ⟨i, hi, rfl⟩ := List.mem_drop_iff_getElem.1 hB
  exact ⟨k + i, by omega, by omega, hq⟩
/-- The block for a time: all ahead stand before it, all behind stand after it. -/
theorem locate (t : Int) (h : Good Bs) (hne : Bs ≠ []) : ∃ hk : atK t (tms (heads Bs)) < Bs.length, (∀ q ∈ (Bs.take (atK t (tms (heads Bs)))).flatten, q.1 < t) ∧ (∀ q ∈ (Bs.drop (atK t (tms (heads Bs)) + 1)).flatten, t < q.1) ∧
    (0 < atK t (tms (heads Bs)) → ∃ q ∈ Bs[atK t (tms (heads Bs))], q.1 ≤ t) := by
  have hl : 0 < Bs.length := List.length_pos_iff.2 hne
  obtain ⟨h1, h2⟩ := rise_cut t h.heads
  have hm := List.pairwise_iff_getElem.1 h.split.2
  have hle := cntLt_le t (tms (heads Bs))
  have hln : (tms (heads Bs)).length = Bs.length := by simp
  have hlh : (heads Bs).length = Bs.length := by simp
  unfold atK
  obtain ⟨c, hc⟩ : ∃ c, cntLt t (tms (heads Bs)) = c := ⟨_, rfl⟩
  rw [hln] at hle ⊢
  rw [hc] at h1 h2 hle ⊢
  have H1 : ∀ i (hi : i < Bs.length), i < c → (Bs[i].headD (0, 0)).1 < t := fun i hi hic => by
    have := h1 (heads Bs)[i] (List.mem_take_iff_getElem.2 ⟨i, by omega, rfl⟩)
    simpa using this
  have H2 : ∀ i (hi : i < Bs.length), c ≤ i → t ≤ (Bs[i].headD (0, 0)).1 := fun i hi hic => by
    have := h2 (heads Bs)[i] (List.mem_drop_iff_getElem.2 ⟨i - c, by omega, by congr 1; omega⟩)
    simpa using this
  have HH : ∀ i (hi : i < Bs.length), Bs[i].headD (0, 0) ∈ Bs[i] := fun i hi => head_mem (h.ne _ (List.getElem_mem hi))
  have HL : ∀ i (hi : i < Bs.length) q, q ∈ Bs[i] → (Bs[i].headD (0, 0)).1 ≤ q.1 := fun i hi q hq => head_le (h.split.1 _ (List.getElem_mem hi)) hq
  by_cases hf : (decide (c < Bs.length) && decide (ksAt (tms (heads Bs)) c = t)) = true
  · rw [if_pos hf]
    simp only [Bool.and_eq_true, decide_eq_true_eq] at hf
    obtain ⟨hcl, hct⟩ := hf
    rw [ksAt_tms (by omega)] at hct
    simp only [List.getElem_map] at hct
    refine ⟨hcl, fun q hq => ?_, fun q hq => ?_, fun _ => ⟨_, HH c hcl, by omega⟩⟩
    · obtain ⟨i, hi, hik, hq⟩ := flat_take hq
      have := hm i c hi hcl hik q hq _ (HH c hcl); omega
    · obtain ⟨i, hi, hik, hq⟩ := flat_drop hq
      have := hm c i hcl hi (by omega) _ (HH c hcl) q hq; omega
  · rw [if_neg hf]
    have hf' : ∀ hcl : c < Bs.length, t < (Bs[c].headD (0, 0)).1 := fun hcl => by
      have h3 := H2 c hcl (Nat.le_refl _)
      have : (Bs[c].headD (0, 0)).1 ≠ t := fun e => hf (by
        simp only [Bool.and_eq_true, decide_eq_true_eq]
        refine ⟨hcl, ?_⟩
        rw [ksAt_tms (by omega)]
        simpa using e)
      omega
    rcases Nat.eq_zero_or_pos c with rfl | h0
    · refine ⟨hl, fun q hq => by simp at hq, fun q hq => ?_, fun h => absurd h (by omega)⟩
      obtain ⟨i, hi, hik, hq⟩ := flat_drop hq
      have := hm 0 i hl hi (by omega) _ (HH 0 hl) q hq
      have := hf' hl; omega
    · refine ⟨by omega, fun q hq => ?_, fun q hq => ?_, fun _ => ⟨_, HH (c - 1) (by omega), Int.le_of_lt (H1 _ (by omega) (by omega))⟩⟩
      · obtain ⟨i, hi, hik, hq⟩ := flat_take hq
        have := hm i (c - 1) hi (by omega) hik q hq _ (HH (c - 1) (by omega))
        have := H1 (c - 1) (by omega) (by omega); omega
      · obtain ⟨i, hi, hik, hq⟩ := flat_drop hq
        have hcl : c < Bs.length := by omega
        have h4 := hf' hcl
        have h5 := HL i hi q hq
        rcases Nat.lt_or_eq_of_le (show c ≤ i by omega) with hlt | rfl
        · have := hm c i hcl hi hlt _ (HH c hcl) _ (HH i hi); omega
        · omega
theorem flat_at (k : Nat) (hk : k < Bs.length) : Bs.flatten = (Bs.take k).flatten ++ Bs[k] ++ (Bs.drop (k + 1)).flatten := by
  conv => lhs; rw [← List.take_append_drop k Bs, ← List.getElem_cons_drop hk]
  rw [List.flatten_append, List.flatten_cons, List.append_assoc]
end
end Go.Proofs.Ytangcgfchalnaaa

/- A heap, as plain law: what down and up keep. No program. -/
namespace Go.Proofs.Ytangcgfchalnaaa
/-- An order that is total: 'not less' goes on. -/
structure Tot {α : Type} (lt : α → α → Bool) : Prop where
  asy : ∀ a b, lt a b = true → lt b a = false
  tr : ∀ a b c, lt b a = false → lt c b = false → lt c a = false
section
variable {α : Type} {lt : α → α → Bool} {A : List α} {d : α}
def swapL (A : List α) (i j : Nat) (d : α) : List α := (A.set i (A.getD j d)).set j (A.getD i d)
theorem swapL_len (A : List α) (i j : Nat) (d : α) : (swapL A i j d).length = A.length := by unfold swapL; simp
theorem getD_set_ (A : List α) (i k : Nat) (x d : α) (hi : i < A.length) : (A.set i x).getD k d = if k = i then x else A.getD k d := by
  rw [List.getD_eq_getElem?_getD, List.getElem?_set, List.getD_eq_getElem?_getD]
  by_cases h : i = k
  · subst h; rw [if_pos rfl, if_pos rfl, if_pos hi]; rfl
  · rw [if_neg h, if_neg (fun e => h e.symm)]
theorem swapL_get {i j : Nat} (hi : i < A.length) (hj : j < A.length) (k : Nat) : (swapL A i j d).getD k d = if k = j then A.getD i d else if k = i then A.getD j d else A.getD k d := by
  unfold swapL
  rw [getD_set_ _ _ _ _ _ (by simpa using hj), getD_set_ _ _ _ _ _ hi]
theorem swapL_perm {i j : Nat} (hi : i < A.length) (hj : j < A.length) : (swapL A i j d).Perm A := by
  unfold swapL
  rw [List.getD_eq_getElem?_getD, List.getD_eq_getElem?_getD, List.getElem?_eq_getElem hi, List.getElem?_eq_getElem hj]
  exact List.set_set_perm hi hj
variable (lt d)
/-- From a place on, no child is less. -/
def HeapF (A : List α) (lo n : Nat) : Prop := ∀ k, 1 ≤ k → k < n → lo ≤ (k - 1) / 2 → lt (A.getD k d) (A.getD ((k - 1) / 2) d) = false
structure DownI (A : List α) (i i0 n : Nat) : Prop where
  a : ∀ k, 1 ≤ k → k < n → i0 ≤ (k - 1) / 2 → (k - 1) / 2 ≠ i → lt (A.getD k d) (A.getD ((k - 1) / 2) d) = false
  b : ∀ k, 1 ≤ k → k < n → (k - 1) / 2 = i → 1 ≤ i → i0 ≤ (i - 1) / 2 → lt (A.getD k d) (A.getD ((i - 1) / 2) d) = false
structure UpI (A : List α) (j n : Nat) : Prop where
  a : ∀ k, 1 ≤ k → k < n → k ≠ j → lt (A.getD k d) (A.getD ((k - 1) / 2) d) = false
  b : ∀ k, 1 ≤ k → k < n → (k - 1) / 2 = j → 1 ≤ j → lt (A.getD k d) (A.getD ((j - 1) / 2) d) = false
variable {lt d}
theorem DownI.start {i0 n : Nat} (h : HeapF lt d A (i0 + 1) n) : DownI lt d A i0 i0 n :=
  ⟨fun k h1 h2 h3 h4 => h k h1 h2 (by omega), fun k _ _ _ h1 h2 => by omega⟩
theorem DownI.stop1 {i i0 n : Nat} (h : DownI lt d A i i0 n) (hn : n ≤ 2 * i + 1) : HeapF lt d A i0 n := fun k h1 h2 h3 => h.a k h1 h2 h3 (by omega)
/-- The lesser child. -/
structure Child (lt : α → α → Bool) (d : α) (A : List α) (i n j : Nat) : Prop where
  is : j = 2 * i + 1 ∨ j = 2 * i + 2
  ltn : j < n
  le : ∀ k, k < n → (k = 2 * i + 1 ∨ k = 2 * i + 2) → lt (A.getD k d) (A.getD j d) = false
theorem Child.left {i n : Nat} (hT : Tot lt) (h : 2 * i + 1 < n) (h2 : n ≤ 2 * i + 2 ∨ lt (A.getD (2 * i + 2) d) (A.getD (2 * i + 1) d) = false) : Child lt d A i n (2 * i + 1) :=
  ⟨.inl rfl, h, fun k hk e => by
    rcases e with e | e
    · subst e
      cases hc : lt (A.getD (2 * i + 1) d) (A.getD (2 * i + 1) d) with
      | false => rfl
      | true => have := hT.asy _ _ hc; rw [this] at hc; cases hc
    · subst e
      exact h2.resolve_left (by omega)⟩
theorem Child.right {i n : Nat} (hT : Tot lt) (h : 2 * i + 2 < n) (h2 : lt (A.getD (2 * i + 2) d) (A.getD (2 * i + 1) d) = true) : Child lt d A i n (2 * i + 2) :=
  ⟨.inr rfl, h, fun k hk e => by
    rcases e with e | e
    · subst e; exact hT.asy _ _ h2
    · subst e
      cases hc : lt (A.getD (2 * i + 2) d) (A.getD (2 * i + 2) d) with
      | false => rfl
      | true => have := hT.asy _ _ hc; rw [this] at hc; cases hc⟩
theorem DownI.stop2 {i i0 n j : Nat} (hT : Tot lt) (h : DownI lt d A i i0 n) (hc : Child lt d A i n j) (hl : lt (A.getD j d) (A.getD i d) = false) : HeapF lt d A i0 n := fun k h1 h2 h3 => by
  by_cases e : (k - 1) / 2 = i
  · rw [e]
    exact hT.tr _ _ _ hl (hc.le k h2 (by omega))
  · exact h.a k h1 h2 h3 e
theorem DownI.step {i i0 n j : Nat} (hT : Tot lt) (h : DownI lt d A i i0 n) (hc : Child lt d A i n j) (hl : lt (A.getD j d) (A.getD i d) = true) (hi0 : i0 ≤ i) (hn : n ≤ A.length) : DownI lt d (swapL A i j d) j i0 n := by
  have hj := hc.is
  have hjn := hc.ltn
  have hij : i < j := by omega
  refine ⟨fun k h1 h2 h3 h4 => ?_, fun k h1 h2 h3 h4 h5 => ?_⟩
  · rw [swapL_get (by omega) (by omega), swapL_get (by omega) (by omega)]
    rw [if_neg h4]
    by_cases hp : (k - 1) / 2 = i
    · rw [if_pos hp]
      by_cases hk : k = j
      · rw [if_pos hk]; exact hT.asy _ _ hl
      · rw [if_neg hk, if_neg (by omega)]; exact hc.le k h2 (by omega)
    · rw [if_neg hp]
      have hk : k ≠ j := by omega
      rw [if_neg hk]
      by_cases hki : k = i
      · rw [if_pos hki]
        subst hki
        exact h.b j (by omega) hjn (by omega) (by omega) h3
      · rw [if_neg hki]; exact h.a k h1 h2 h3 hp
  · rw [swapL_get (by omega) (by omega), swapL_get (by omega) (by omega)]
    have e : (j - 1) / 2 = i := by omega
    rw [e, if_neg (by omega), if_neg (by omega), if_neg (by omega), if_pos rfl]
    have := h.a k h1 h2 (by omega) (by omega)
    rwa [h3] at this
theorem UpI.stop1 {n : Nat} (h : UpI lt d A 0 n) : HeapF lt d A 0 n := fun k h1 h2 _ => h.a k h1 h2 (by omega)
theorem UpI.stop2 {j n : Nat} (h : UpI lt d A j n) (hl : lt (A.getD j d) (A.getD ((j - 1) / 2) d) = false) : HeapF lt d A 0 n := fun k h1 h2 _ => by
  by_cases e : k = j
  · subst e; exact hl
  · exact h.a k h1 h2 e
theorem UpI.step {j n : Nat} (hT : Tot lt) (h : UpI lt d A j n) (hj : 1 ≤ j) (hjn : j < n) (hl : lt (A.getD j d) (A.getD ((j - 1) / 2) d) = true) (hn : n ≤ A.length) : UpI lt d (swapL A ((j - 1) / 2) j d) ((j - 1) / 2) n := by
  obtain ⟨i, hi⟩ : ∃ i, (j - 1) / 2 = i := ⟨_, rfl⟩
  rw [hi] at hl ⊢
  refine ⟨fun k h1 h2 h3 => ?_, fun k h1 h2 h3 h4 => ?_⟩
  · rw [swapL_get (by omega) (by omega), swapL_get (by omega) (by omega)]
    by_cases hk : k = j
    · subst hk
      rw [if_pos rfl, hi, if_neg (by omega), if_pos rfl]
      exact hT.asy _ _ hl
    · rw [if_neg hk, if_neg h3]
      by_cases hp : (k - 1) / 2 = j
      · rw [if_pos hp]
        have := h.b k h1 h2 hp hj
        rwa [hi] at this
      · rw [if_neg hp]
        by_cases hpi : (k - 1) / 2 = i
        · rw [if_pos hpi]
          have := h.a k h1 h2 hk
          rw [hpi] at this
          exact hT.tr _ _ _ (hT.asy _ _ hl) this
        · rw [if_neg hpi]; exact h.a k h1 h2 hk
  · rw [swapL_get (by omega) (by omega), swapL_get (by omega) (by omega)]
    have hii := h.a i (by omega) (by omega) (by omega)
    rw [if_neg (show ¬ (i - 1) / 2 = j by omega), if_neg (show ¬ (i - 1) / 2 = i by omega)]
    by_cases hk : k = j
    · rw [if_pos hk]; exact hii
    · rw [if_neg hk, if_neg (by omega)]
      have := h.a k h1 h2 hk
      rw [h3] at this
      exact hT.tr _ _ _ hii this
/-- The first one is the least. -/
theorem HeapF.min {n : Nat} (hT : Tot lt) (h : HeapF lt d A 0 n) : ∀ k, k < n → lt (A.getD k d) (A.getD 0 d) = false := by
  intro k
  induction k using Nat.strongRecOn with
  | _ k ih =>
    intro hk
    by_cases h0 : k = 0
    · subst h0
      cases hc : lt (A.getD 0 d) (A.getD 0 d) with
      | false => rfl
      | true => have := hT.asy _ _ hc; rw [this] at hc; cases hc
    · exact hT.tr _ _ _ (ih ((k - 1) / 2) (by omega) (by omega)) (h k (by omega) hk (Nat.zero_le _))
theorem HeapF.congr {B : List α} {lo n : Nat} (h : HeapF lt d A lo n) (he : ∀ k, k < n → B.getD k d = A.getD k d) : HeapF lt d B lo n := fun k h1 h2 h3 => by
  rw [he k h2, he _ (by omega)]; exact h k h1 h2 h3
theorem HeapF.less {lo lo' n n' : Nat} (h : HeapF lt d A lo n) (h1 : lo ≤ lo') (h2 : n' ≤ n) : HeapF lt d A lo' n' := fun k a b c => h k a (by omega) (by omega)
theorem HeapF.half {n : Nat} : HeapF lt d A (n / 2) n := fun k h1 h2 h3 => by omega
/-- The first and the last are swapped: from the second place on it is a heap yet. -/
theorem HeapF.swap0 {n : Nat} (h : HeapF lt d A 0 (n + 1)) (hn : n + 1 ≤ A.length) : HeapF lt d (swapL A 0 n d) 1 n := fun k h1 h2 h3 => by
  rw [swapL_get (by omega) (by omega), swapL_get (by omega) (by omega)]
  rw [if_neg (by omega), if_neg (by omega), if_neg (by omega), if_neg (by omega)]
  exact h k h1 (by omega) (Nat.zero_le _)
theorem UpI.start {n : Nat} (h : HeapF lt d A 0 n) (x : α) (hn : n = A.length) : UpI lt d (A ++ [x]) n (n + 1) :=
  ⟨fun k h1 h2 h3 => by
    have e : ∀ k, k < n → (A ++ [x]).getD k d = A.getD k d := fun k hk => by rw [List.getD_eq_getElem?_getD, List.getElem?_append_left (by omega), List.getD_eq_getElem?_getD]
    rw [e k (by omega), e _ (by omega)]
    exact h k h1 (by omega) (Nat.zero_le _), fun k _ _ h3 _ => by omega⟩
end
end Go.Proofs.Ytangcgfchalnaaa

/- A buffer in memory, as a list of points: right, Len, Floor, At, Last, Ends. -/
namespace Go.Proofs.Ytangcgfchalnaaa
open Go.RowKit
/-- A made buffer at b, in memory of F: its points, its floor. -/
def BufL (w : World) (F : Nat → Prop) (b : Nat) (P : List Pt) (fl : Int) : Prop := ∃ Z v, BufC w F b Z v fl P.length ∧ Good (Z.map (·.2)) ∧ P = (Z.map (·.2)).flatten ∧ P.length ≤ 65536
abbrev bptr (b : Nat) : Value := .pointer (some ⟨b, 0, none⟩)
section
variable {w w' : World} {F : Nat → Prop} {b n : Nat} {Z : List Blk} {v : Value} {fl : Int} {P : List Pt}
theorem BufL.below (h : BufL w F b P fl) (hb : Below w.heap.size w w') : BufL w' F b P fl := by obtain ⟨Z, v, h1, h2⟩ := h; exact ⟨Z, v, h1.below hb, h2⟩
theorem BufL.rise (h : BufL w F b P fl) : Rise P := by obtain ⟨Z, v, _, h2, h3, _⟩ := h; rw [h3]; exact h2.rise
theorem good_len (h : Good (Z.map (·.2))) : Z.length ≤ (Z.map (·.2)).flatten.length := by
  have : ∀ Bs : List (List Pt), (∀ B ∈ Bs, B ≠ []) → Bs.length ≤ Bs.flatten.length := by
    intro Bs
    induction Bs with
    | nil => intro _; simp
    | cons B Bs ih =>
      intro hB
      have h1 := ih (fun B hB' => hB B (by simp [hB']))
      have h2 : 0 < B.length := List.length_pos_iff.2 (hB B (by simp))
      rw [List.flatten_cons, List.length_append, List.length_cons]; omega
  have := this _ h.ne
  simpa using this
theorem bright_any (h : BufC w F b Z v fl n) : Calls Try.prog 55 #[bptr b] w fun e w' => e = .returned (.bool true) ∧ w = w' := by
  have k0 := cellAt (o := 0) h.buf rfl
  clear h
  go_enter Try.func55, Try.ntmps55
  go_wp2_with fail
  go_ret
  exact ⟨rfl, rfl⟩
theorem bright_nil (w : World) : Calls Try.prog 55 #[.pointer none] w fun e w' => e = .returned (.bool false) ∧ w = w' := by
  go_enter Try.func55, Try.ntmps55
  go_wp2_with fail
  go_ret
  exact ⟨rfl, rfl⟩
theorem blen_any (h : BufC w F b Z v fl n) : Calls Try.prog 44 #[bptr b] w fun e w' => e = .returned (.int .i64 (n : Int)) ∧ Below w.heap.size w w' := by
  have CR := Lib.hid (bright_any h)
  have k3 := cellAt (o := 3) h.buf rfl
  clear h
  go_enter Try.func44, Try.ntmps44
  go_wp2_with fail
  refine CR.out.mono ?_
  rintro e w1 ⟨rfl, rfl⟩
  go_wp2_with fail
  go_ret
  exact ⟨rfl, Below.refl _ _⟩
/-- The slice of no blocks. -/
theorem BufC.noB (h : BufC w F b [] v fl n) : ∃ A c, v = .slice A 0 c := by
  obtain ⟨A, c, h1, _⟩ := h.row.form
  exact ⟨A, c, h1⟩
theorem headD_get {B : List Pt} (h : 0 < B.length) : B.headD (0, 0) = B[0] := by cases B with | nil => simp at h | cons a B => rfl
/-- The first times, in memory. -/
theorem BufC.first (h : BufC w F b Z v fl n) (hG : Good (Z.map (·.2))) : ∀ i (hi : i < Z.length), w.cell? ⟨Z[i].1, 1, none⟩ = some (.int .i64 (ksAt (tms (heads (Z.map (·.2)))) i)) := by
  intro i hi
  have hz : Z[i] ∈ Z := List.getElem_mem hi
  have hne : Z[i].2 ≠ [] := hG.ne _ (List.mem_map.2 ⟨_, hz, rfl⟩)
  have hb := (h.blks _ hz).2.pt (k := 0) (List.length_pos_iff.2 hne)
  rw [ksAt_tms (by simpa using hi)]
  simp only [List.getElem_map]
  have := hb.1
  rw [show (Z[i].2.headD (0, 0)) = Z[i].2[0]'(List.length_pos_iff.2 hne) by
    exact headD_get _]
  exact this
theorem bat_L (t : Int) (h : BufC w F b Z v fl n) (hG : Good (Z.map (·.2))) (hne : Z ≠ []) (hN : Z.length ≤ 65536) :
    Calls Try.prog 57 #[bptr b, .int .i64 t] w fun e w' => e = .returned (.int .i64 (atK t (tms (heads (Z.map (·.2)))) : Int)) ∧ Below w.heap.size w w' :=
  bat_any t _ h hne (by omega) (by simp) (h.first hG) (fun i j hij hj => tms_mono hG.heads i j hij (by simpa using hj))
set_option maxRecDepth 100000 in
set_option maxHeartbeats 4000000 in
theorem bAt_any (t : Int) (h : BufL w F b P fl) : Calls Try.prog 42 #[bptr b, .int .i64 t] w fun e w' => e = .returned (.tuple #[.int .i64 (atP t P).1, .bool (atP t P).2]) ∧ Below w.heap.size w w' := by
  obtain ⟨Z, v, h, hG, rfl, hP⟩ := h
  have hZ := good_len hG
  have CR := Lib.hid (bright_any h)
  by_cases hz : Z = []
  · subst hz
    obtain ⟨A, c, rfl⟩ := h.noB
    have k1 := cellAt (o := 1) h.buf rfl
    clear h
    rw [show atP t (List.map (fun (x : Blk) => x.2) []).flatten = (0, false) from rfl]
    go_enter Try.func42, Try.ntmps42
    go_wp2_with fail
    refine CR.out.mono ?_
    rintro e w1 ⟨rfl, rfl⟩
    go_wp2_with fail
    exact bodyPost_ret (v := .tuple #[.int .i64 0, .bool false]) (by simp only [results, Try.results42]; go_simp) rfl ⟨rfl, Below.refl _ _⟩
  · obtain ⟨g, o, c, rfl, h1, h2, h3, h4⟩ := h.form hz
    obtain ⟨hk, q1, q2, q3⟩ := locate t hG (by simpa using hz)
    have CA := Lib.hid (fun W (hW : Below w.heap.size w W) => bat_L t (h.below hW) hG hz (by omega))
    have hk' : atK t (tms (heads (Z.map (·.2)))) < Z.length := by simpa using hk
    have h5 := h4 _ hk'
    have hbl := (h.blks _ (List.getElem_mem hk')).2
    have hrz : Rise (Z[atK t (tms (heads (Z.map (·.2))))]).2 := hG.split.1 _ (List.mem_map.2 ⟨_, List.getElem_mem hk', rfl⟩)
    have hat : atP t (Z.map (·.2)).flatten = atP t (Z[atK t (tms (heads (Z.map (·.2))))]).2 := by
      rw [flat_at _ hk, atP_mid q1 q2]; simp
    rw [hat, atP_has hrz]
    have hb := h.buf
    clear h2 h4 q1 q2 q3 hat
    obtain ⟨k, hkk⟩ : ∃ k, atK t (tms (heads (Z.map (·.2)))) = k := ⟨_, rfl⟩
    simp only [hkk] at CA hk' h5 hbl hrz ⊢
    obtain ⟨x, X, hx⟩ : ∃ x X, Z[k] = (x, X) := ⟨_, _, rfl⟩
    rw [hx] at h5 hbl hrz ⊢
    simp only at h5 hbl hrz ⊢
    obtain ⟨zl, hzl⟩ : ∃ n, Z.length = n := ⟨_, rfl⟩
    rw [hzl] at hk' h1 hZ hb
    clear hx hkk hk h
    have HF := Lib.hid (fun W (hW : Below w.heap.size w W) => bfind_any t (hbl.below hW) hrz)
    obtain ⟨m, hm⟩ : ∃ m, cntLt t (tms X) = m := ⟨_, rfl⟩
    have HB := Lib.hid hb
    have k1 := cellAt (o := 1) hb rfl
    have H5 := Lib.hid h5
    have hX := hbl.le
    have hze : ¬ (zl : Int) = 0 := by omega
    clear hb
    by_cases hh : hasT t X = true
    · rw [if_pos hh]
      obtain ⟨m', hm', hl, he⟩ := hasT_at hrz hh
      have hpt := hbl.pt (k := m') hl
      have hge : X.getD m' (0, 0) = X[m'] := by rw [List.getD_eq_getElem?_getD, List.getElem?_eq_getElem hl]; rfl
      rw [hm', hge]
      rw [hm', hh] at HF
      obtain ⟨y, hy⟩ : ∃ y, X[m'] = y := ⟨_, rfl⟩
      rw [hy] at hpt ⊢
      have HPT := Lib.hid hpt
      have HLT := Lib.hid hbl.lt
      clear hbl hpt hge hy
      go_enter Try.func42, Try.ntmps42
      go_wp2_with fail
      refine CR.out.mono ?_
      rintro e w1 ⟨rfl, rfl⟩
      go_wp2_with fail
      refine wp_region_here 10 [(0, false), (1, false), (2, false), (3, false), (4, false), (5, false), (6, false), (7, false), (8, false), (9, false)] (fun _ => .cells #[] 0) (by kernel_rfl) (by kernel_rfl) ?_
      repeat (first | (refine wpP_q rfl rfl rfl ?_; apply Exists.intro; refine ⟨fun w' hw' => ?_, fun K hK => ?_⟩; (focus ((have q0 := cellAt (o := 1) (keepB HB.out hw') rfl; have q5 := (hw'.cell (p := ⟨g, o + k, none⟩) h3).trans H5.out); go_simp; first | exact quiet_value | first | with_reducible exact quiet_enter (CA.out _ hw'))); simp only [Act.put, List.setIfInBounds_toArray, List.set_cons_zero, List.set_cons_succ]; refine hK.out _ ?_; clear hK K) | (refine wpP_skip rfl rfl rfl (fun K hK => ?_); simp only [Act.put, List.setIfInBounds_toArray, List.set_cons_zero, List.set_cons_succ]; refine hK.out _ ?_; clear hK K))
      refine wpP_nil ?_
      intro w1 hb1
      have HB1 := Lib.hid hb1
      clear hb1
      (try simp only [List.drop_succ_cons]); (try simp only [List.drop_zero]); (try simp only [List.drop_nil])
      go_wp2_with fail
      refine (HF.out _ HB1.out).mono ?_
      rintro e w2 ⟨rfl, hb2⟩
      have HB2 := Lib.hid (HB1.out.trans (hb2.mono HB1.out.size))
      clear hb2
      have p1 := (HPT.out.below HLT.out HB2.out).2.1
      have hml : (m' : Int) < 64 := by omega
      go_wp2_with fail
      exact bodyPost_ret (v := .tuple #[.int .i64 y.2, .bool true]) (by simp only [results, Try.results42]; go_simp) rfl ⟨rfl, HB2.out⟩
    · rw [if_neg hh]
      simp only [Bool.not_eq_true] at hh
      rw [hm, hh] at HF
      clear hbl
      go_enter Try.func42, Try.ntmps42
      go_wp2_with fail
      refine CR.out.mono ?_
      rintro e w1 ⟨rfl, rfl⟩
      go_wp2_with fail
      refine wp_region_here 10 [(0, false), (1, false), (2, false), (3, false), (4, false), (5, false), (6, false), (7, false), (8, false), (9, false)] (fun _ => .cells #[] 0) (by kernel_rfl) (by kernel_rfl) ?_
      repeat (first | (refine wpP_q rfl rfl rfl ?_; apply Exists.intro; refine ⟨fun w' hw' => ?_, fun K hK => ?_⟩; (focus ((have q0 := cellAt (o := 1) (keepB HB.out hw') rfl; have q5 := (hw'.cell (p := ⟨g, o + k, none⟩) h3).trans H5.out); go_simp; first | exact quiet_value | first | with_reducible exact quiet_enter (CA.out _ hw'))); simp only [Act.put, List.setIfInBounds_toArray, List.set_cons_zero, List.set_cons_succ]; refine hK.out _ ?_; clear hK K) | (refine wpP_skip rfl rfl rfl (fun K hK => ?_); simp only [Act.put, List.setIfInBounds_toArray, List.set_cons_zero, List.set_cons_succ]; refine hK.out _ ?_; clear hK K))
      refine wpP_nil ?_
      intro w1 hb1
      have HB1 := Lib.hid hb1
      clear hb1
      (try simp only [List.drop_succ_cons]); (try simp only [List.drop_zero]); (try simp only [List.drop_nil])
      go_wp2_with fail
      refine (HF.out _ HB1.out).mono ?_
      rintro e w2 ⟨rfl, hb2⟩
      have HB2 := Lib.hid (HB1.out.trans (hb2.mono HB1.out.size))
      clear hb2
      go_wp2_with fail
      exact bodyPost_ret (v := .tuple #[.int .i64 0, .bool false]) (by simp only [results, Try.results42]; go_simp) rfl ⟨rfl, HB2.out⟩
/-- The last point, as it is told. -/
def lastV (o : Option Pt) : Value := .tuple #[bpv (o.getD (0, 0)), .bool o.isSome]
/-- The first and the last time. -/
def endsP (P : List Pt) : Int × Int := ((P.headD (0, 0)).1, (P.getLastD (0, 0)).1)
theorem ends_flat {Bs : List (List Pt)} (hG : Good Bs) (hne : Bs ≠ []) : ∃ (h0 : 0 < Bs.length) (h1 : 0 < Bs[0].length) (h2 : 0 < (Bs[Bs.length - 1]).length), endsP Bs.flatten = (Bs[0][0].1, (Bs[Bs.length - 1])[(Bs[Bs.length - 1]).length - 1].1) := by
  have h0 : 0 < Bs.length := List.length_pos_iff.2 hne
  have h1 : 0 < Bs[0].length := List.length_pos_iff.2 (hG.ne _ (List.getElem_mem h0))
  have h2 : 0 < (Bs[Bs.length - 1]).length := List.length_pos_iff.2 (hG.ne _ (List.getElem_mem _))
  refine ⟨h0, h1, h2, ?_⟩
  unfold endsP
  congr 1
  · cases Bs with
    | nil => exact absurd rfl hne
    | cons B Bs =>
      simp only [List.getElem_cons_zero] at h1
      cases B with
      | nil => simp at h1
      | cons a B => rfl
  · have e := flat_at (Bs := Bs) (Bs.length - 1) (by omega)
    rw [List.drop_eq_nil_of_le (by omega), List.flatten_nil, List.append_nil] at e
    rw [e, List.getLastD_eq_getLast?, List.getLast?_append, List.getLast?_eq_getElem? (l := Bs[Bs.length - 1]), List.getElem?_eq_getElem (by omega)]
    rfl
theorem ends_mem (h : BufC w F b Z v fl n) (hG : Good (Z.map (·.2))) (hz : Z ≠ []) (hZ : Z.length ≤ 65536) : ∃ (g o c zl zm x0 x1 m r : Nat) (t0 t1 : Int), endsP (Z.map (·.2)).flatten = (t0, t1) ∧
    w.heap[b]? = some (.cells (bufC (.slice (some ⟨g, o, none⟩) zl c) fl n) 102 (0, 0)) ∧ w.cell? ⟨g, o, none⟩ = some (.pointer (some ⟨x0, 0, none⟩)) ∧ w.cell? ⟨g, o + zm, none⟩ = some (.pointer (some ⟨x1, 0, none⟩)) ∧
    zl = zm + 1 ∧ zl ≤ 65536 ∧ w.cell? ⟨x1, 0, none⟩ = some (.int .i64 (m : Int)) ∧ m = r + 1 ∧ m ≤ 64 ∧ w.cell? ⟨x0, 1, none⟩ = some (.int .i64 t0) ∧ w.cell? ⟨x1, 1 + r * 3, none⟩ = some (.int .i64 t1) ∧ g < w.heap.size ∧ x0 < w.heap.size ∧ x1 < w.heap.size := by
  obtain ⟨g, o, c, rfl, h1, h2, h3, h4⟩ := h.form hz
  obtain ⟨hk, q1, q2, q3⟩ := ends_flat hG (by simpa using hz)
  have hl : 0 < Z.length := List.length_pos_iff.2 hz
  have b0 := (h.blks _ (List.getElem_mem hl)).2
  have b1 := (h.blks _ (List.getElem_mem (show Z.length - 1 < Z.length by omega))).2
  simp only [List.length_map, List.getElem_map] at q1 q2 q3
  exact ⟨g, o, c, Z.length, Z.length - 1, _, _, _, _, _, _, q3, h.buf, h4 0 hl, h4 (Z.length - 1) (by omega), by omega, hZ, b1.count, by omega, b1.le, (b0.pt q1).1, (b1.pt (by omega)).1, h3, b0.lt, b1.lt⟩
end
end Go.Proofs.Ytangcgfchalnaaa

/- The least number of which something is so: a loop's measure by a letter. No program. -/
namespace Go.Proofs.Ytangcgfchalnaaa
/-! ### The least number of which something is so: a loop's measure by a letter -/
theorem exists_least (P : Nat → Prop) : ∀ (m : Nat), P m → ∃ k, P k ∧ ∀ j, P j → k ≤ j := fun m => by
  induction m using Nat.strongRecOn with
  | ind m ih =>
    intro h
    by_cases hx : ∃ j, j < m ∧ P j
    · obtain ⟨j, h1, h2⟩ := hx; exact ih j h1 h2
    · refine ⟨m, h, fun j hj => ?_⟩
      rcases Nat.lt_or_ge j m with h1 | h1
      · exact (hx ⟨j, h1, hj⟩).elim
      · exact h1
open Classical in
noncomputable def least (P : Nat → Prop) : Nat := if h : ∃ k, P k ∧ ∀ j, P j → k ≤ j then h.choose else 0
theorem least_spec {P : Nat → Prop} (h : ∃ m, P m) : P (least P) := by
  obtain ⟨m, hm⟩ := h
  have hx := exists_least P m hm
  unfold least
  rw [dif_pos hx]
  exact hx.choose_spec.1
theorem least_le {P : Nat → Prop} {m : Nat} (hm : P m) : least P ≤ m := by
  have hx := exists_least P m hm
  unfold least
  rw [dif_pos hx]
  exact hx.choose_spec.2 m hm
end Go.Proofs.Ytangcgfchalnaaa
