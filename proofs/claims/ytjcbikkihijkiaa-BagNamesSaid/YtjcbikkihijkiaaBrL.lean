/- BagRanks: plain law of counts and places. -/
import Derived.Test.YtjcbikkihijkiaaBgS
namespace Go.Proofs.Ytjcbikkihijkiaa
open Go.RowKit
theorem cnt_del {n : Int} : ∀ {L : List (Int × Nat)}, OkL L → cntL n (delL n L) = cntL n L - 1
  | [], _ => rfl
  | (m, j) :: L, h => by
    have hp := List.pairwise_cons.1 (show List.Pairwise _ ((m, j) :: L) from h.asc)
    have hj := h.one (m, j) (by simp)
    simp only at hj
    simp only [delL]
    by_cases e : m = n
    · subst e
      have h0 : cntL m L = 0 := cntL_none (fun p hq => by have := hp.1 p hq; simp only at this; omega)
      rw [if_pos rfl]
      by_cases h1 : 1 < j
      · rw [if_pos h1]; simp only [cntL, h0, if_true]; omega
      · rw [if_neg h1, h0]; simp only [cntL, h0, if_true]; omega
    · rw [if_neg e]
      simp only [cntL, if_neg e, cnt_del h.tail]; omega
theorem sumL_del_pos {n : Int} : ∀ {L : List (Int × Nat)}, OkL L → 0 < cntL n L → sumL (delL n L) + 1 = sumL L
  | [], _, h => by simp [cntL] at h
  | (m, j) :: L, h, h0 => by
    have hp := List.pairwise_cons.1 (show List.Pairwise _ ((m, j) :: L) from h.asc)
    have hj := h.one (m, j) (by simp)
    simp only at hj
    simp only [delL]
    by_cases e : m = n
    · rw [if_pos e]
      by_cases h1 : 1 < j
      · rw [if_pos h1]; simp only [sumL]; omega
      · rw [if_neg h1]; simp only [sumL]; omega
    · rw [if_neg e]
      simp only [cntL, if_neg e, Nat.zero_add] at h0
      have := sumL_del_pos h.tail h0
      simp only [sumL]; omega
theorem low_succ (n : Int) : ∀ L : List (Int × Nat), lowL (n + 1) L = lowL n L + cntL n L
  | [] => rfl
  | p :: L => by
    simp only [lowL, cntL, low_succ n L]
    by_cases h1 : p.1 < n
    · rw [if_pos h1, if_pos (by omega), if_neg (by omega)]; omega
    · rw [if_neg h1]
      by_cases h2 : p.1 = n
      · rw [if_pos h2, if_pos (by omega)]; omega
      · rw [if_neg h2, if_neg (by omega)]; omega
theorem split_at {L : List (Int × Nat)} {i : Nat} (hi : i < L.length) : L = L.take i ++ L[i] :: L.drop (i + 1) := by
  rw [← List.drop_eq_getElem_cons hi, List.take_append_drop]
theorem OkL.at_ {L : List (Int × Nat)} (h : OkL L) {i : Nat} (hi : i < L.length) : lowL L[i].1 L = sumL (L.take i) ∧ cntL L[i].1 L = L[i].2 ∧ 1 ≤ L[i].2 ∧ sumL (L.take (i + 1)) = sumL (L.take i) + L[i].2 := by
  have hs := split_at hi
  have ha : Asc (L.take i ++ L[i] :: L.drop (i + 1)) := by rw [← hs]; exact h.asc
  obtain ⟨_, _, h3, h4⟩ := ha.parts
  have e1 : lowL L[i].1 L = lowL L[i].1 (L.take i ++ L[i] :: L.drop (i + 1)) := by rw [← hs]
  have e2 : cntL L[i].1 L = cntL L[i].1 (L.take i ++ L[i] :: L.drop (i + 1)) := by rw [← hs]
  refine ⟨?_, ?_, h.one _ (List.getElem_mem hi), ?_⟩
  · rw [e1, lowL_app, lowL_all h3]
    simp only [lowL]
    rw [if_neg (by omega), lowL_none (fun p hp => by have := h4 p hp; omega)]; omega
  · rw [e2, cntL_app, cntL_none (fun p hp => by have := h3 p hp; omega)]
    simp only [cntL, if_true]
    rw [cntL_none (fun p hp => by have := h4 p hp; omega)]; omega
  · rw [List.take_succ_eq_append_getElem hi, sumL_app]; simp [sumL]
theorem OkL.lt {L : List (Int × Nat)} (h : OkL L) {i : Nat} (hi : i + 1 < L.length) : L[i].1 < L[i + 1].1 :=
  (List.pairwise_iff_getElem.1 h.asc) i (i + 1) (by omega) hi (by omega)
theorem loL_at {L : List (Int × Nat)} (h : 0 < L.length) : loL L = L[0].1 := by
  cases L with
  | nil => simp at h
  | cons p L => rfl
theorem hiL_at : ∀ {L : List (Int × Nat)} (h : L ≠ []), hiL L = (L.getLast h).1
  | [], h => absurd rfl h
  | [p], _ => rfl
  | _ :: q :: L, h => by
    show hiL (q :: L) = _
    rw [hiL_at (by simp)]
    simp
/-- Taking tells whether there was one; one less is there. -/
theorem take_tells {L : List (Int × Nat)} (h : OkL L) (n : Int) (ov : Bool) (o : Nat) : ((takeLs n ov L o).1 = 0 ↔ 0 < cntLs n ov L o) ∧ cntLs n ov (takeLs n ov L o).2.1 (takeLs n ov L o).2.2 = cntLs n ov L o - 1 ∧ OkL (takeLs n ov L o).2.1 ∧
    (takeLs n ov L o).2.2 + sumL (takeLs n ov L o).2.1 ≤ o + sumL L := by
  unfold takeLs
  by_cases hc : chk n ov = 0
  · rw [if_pos hc]
    by_cases h0 : cntLs n ov L o = 0
    · rw [if_pos h0]
      refine ⟨by simp [h0], by rw [h0], h, Nat.le_refl _⟩
    · rw [if_neg h0]
      cases ov with
      | true =>
        have : cntLs n true L o = o := by unfold cntLs; rw [if_pos hc, if_pos rfl]
        rw [this] at h0 ⊢
        refine ⟨by simp; omega, by unfold cntLs; rw [if_pos hc, if_pos rfl]; simp, h, by simp⟩
      | false =>
        have : cntLs n false L o = cntL n L := by unfold cntLs; rw [if_pos hc, if_neg (by simp)]
        rw [this] at h0 ⊢
        refine ⟨by simp; omega, by unfold cntLs; rw [if_pos hc]; simp [cnt_del h], h.del, ?_⟩
        simp only [Bool.false_eq_true, if_false]
        have := sumL_del n L; omega
  · rw [if_neg hc]
    have : ∀ L o, cntLs n ov L o = 0 := fun L o => by unfold cntLs; rw [if_neg hc]
    refine ⟨by simp [this], by simp [this], h, Nat.le_refl _⟩
theorem cntLs_le (n : Int) (ov : Bool) (L : List (Int × Nat)) (o : Nat) : cntLs n ov L o ≤ o + sumL L := by
  unfold cntLs
  have := cntL_le n L
  split
  · split <;> omega
  · omega
theorem put_sum (n : Int) (ov : Bool) (L : List (Int × Nat)) (o : Nat) : (putLs n ov L o).2 + sumL (putLs n ov L o).1 ≤ o + sumL L + 1 := by
  unfold putLs
  split
  · split
    · simp only; omega
    · simp only [sumL_ins]; omega
  · simp only; omega
theorem LBag.ok {w0 w : World} {K : Nat → Prop} {b o : Nat} {L : List (Int × Nat)} (h : LBag w0 K w b L o) : OkL L := by
  obtain ⟨_, ⟨F, ⟨T, _, rfl, h3⟩, _⟩, _⟩ := h
  exact h3
theorem ownsRow_at {w : World} {base : Nat} {e : TypeId} {size : Nat} {a : Option Addr} {n c : Nat} {xs : List Value} (h : w.ownsRow base e size (.slice a n c) n xs) (h0 : 0 < n) : ∃ g, a = some ⟨g, 0, none⟩ := by
  rcases h.2 with ⟨h1, h2⟩ | ⟨g, _, _, h1, _⟩
  · omega
  · cases h1; exact ⟨g, rfl⟩
/-- A row of counts. -/
theorem oft_below {w0 w w' : World} {v : Value} {L : List (Int × Nat)} (h : w.ownsRow w0.heap.size 34 2 v L.length (oftF L)) (hb : Below w.heap.size w w') : w'.ownsRow w0.heap.size 34 2 v L.length (oftF L) :=
  h.kept (row := none) ⟨hb.os, hb.tape, hb.output, hb.size, fun k hk _ => hb.block k hk⟩ (by cases v.ownBlock <;> simp)
theorem oftF_length (L : List (Int × Nat)) : (oftF L).length = L.length * 2 := by
  induction L with
  | nil => rfl
  | cons p L ih => simp only [oftF, List.flatMap_cons, List.length_append] at ih ⊢; rw [ih]; simp [oftC]; omega
theorem oftF_get (L : List (Int × Nat)) (i : Nat) (h : i < L.length) : (oftF L)[i * 2]? = some (.int .i64 L[i].1) ∧ (oftF L)[i * 2 + 1]? = some (.int .i64 (L[i].2 : Int)) := by
  induction L generalizing i with
  | nil => simp at h
  | cons p L ih =>
    have he : oftF (p :: L) = .int .i64 p.1 :: .int .i64 (p.2 : Int) :: oftF L := rfl
    rw [he]
    cases i with
    | zero => exact ⟨rfl, rfl⟩
    | succ i =>
      have := ih i (by simpa using h)
      rw [show (i + 1) * 2 = i * 2 + 1 + 1 by omega]
      exact this
theorem oft_cell {w : World} {base g cap : Nat} {L : List (Int × Nat)} (h : w.ownsRow base 34 2 (.slice (some ⟨g, 0, none⟩) L.length cap) L.length (oftF L)) {i : Nat} (hi : i < L.length) :
    w.cell? ⟨g, i * 2, none⟩ = some (.int .i64 L[i].1) ∧ w.cell? ⟨g, i * 2 + 1, none⟩ = some (.int .i64 (L[i].2 : Int)) := by
  have key : ∀ j u, (oftF L)[j]? = some u → w.cell? ⟨g, j, none⟩ = some u := fun j u hu => by
    have hq := h.cells (g := g) rfl j u hu
    simp only [Addr.add, Nat.zero_add] at hq
    split at hq
    · rename_i h0; rw [h0]; exact hq
    · exact hq
  exact ⟨key _ _ (oftF_get L i hi).1, key _ _ (oftF_get L i hi).2⟩
end Go.Proofs.Ytjcbikkihijkiaa
