/- The reference's window: plain law of ends; Check; steps. -/
import Derived.Test.YtbhkgnhgecchcaaRef
import Derived.Test.YtbhkgnhgecchcaaSlT
namespace Go.Proofs.Ytbhkgnhgecchcaa
open Go.RowKit
/-- A number that no other one is ahead of. -/
def leN (sg : Bool) (a b : Int) : Prop := if sg then b ≤ a else a ≤ b
def IsEnd (sg : Bool) (P : List Pt) (m : Int) : Prop := (∃ p ∈ P, p.2 = m) ∧ ∀ q ∈ P, leN sg m q.2
theorem leN_of {sg : Bool} {a b : Int} (h : aheadN sg a b = true) : leN sg a b := by unfold aheadN at h; unfold leN; cases sg <;> simp at h ⊢ <;> omega
theorem leN_not {sg : Bool} {a b : Int} (h : aheadN sg a b = false) : leN sg b a := by unfold aheadN at h; unfold leN; cases sg <;> simp at h ⊢ <;> omega
theorem leN_trans {sg : Bool} {a b c : Int} (h : leN sg a b) (k : leN sg b c) : leN sg a c := by unfold leN at *; cases sg <;> simp at h k ⊢ <;> omega
theorem leN_refl (sg : Bool) (a : Int) : leN sg a a := by unfold leN; cases sg <;> simp
theorem leN_anti {sg : Bool} {a b : Int} (h : leN sg a b) (k : leN sg b a) : a = b := by unfold leN at *; cases sg <;> simp at h k <;> omega
theorem sfx_end (sg : Bool) : ∀ P : List Pt, P ≠ [] → IsEnd sg P (((sfx sg P).head?.map (·.2)).getD 0)
  | [], h => absurd rfl h
  | p :: P, _ => by
    by_cases h : (P.all fun q => aheadN sg p.2 q.2) = true
    · simp only [sfx, h, if_true, List.head?_cons, Option.map_some, Option.getD_some]
      refine ⟨⟨p, by simp, rfl⟩, fun q hq => ?_⟩
      rcases List.mem_cons.1 hq with rfl | hq
      · exact leN_refl _ _
      · exact leN_of (List.all_eq_true.1 h q hq)
    · have hP : P ≠ [] := fun e => h (by rw [e]; rfl)
      simp only [Bool.not_eq_true] at h
      simp only [sfx, h, Bool.false_eq_true, if_false]
      obtain ⟨⟨r, hr, hrm⟩, hall⟩ := sfx_end sg P hP
      refine ⟨⟨r, List.mem_cons_of_mem _ hr, hrm⟩, fun q hq => ?_⟩
      rcases List.mem_cons.1 hq with rfl | hq
      · obtain ⟨x, hx, hxa⟩ := List.all_eq_false.1 h
        simp only [Bool.not_eq_true] at hxa
        exact leN_trans (hall x hx) (leN_not hxa)
      · exact hall q hq
theorem IsEnd.uniq {sg : Bool} {P : List Pt} {a b : Int} (h : IsEnd sg P a) (k : IsEnd sg P b) : a = b := by
  obtain ⟨⟨p, hp, rfl⟩, h2⟩ := h
  obtain ⟨⟨q, hq, rfl⟩, k2⟩ := k
  exact leN_anti (h2 q hq) (k2 p hp)
theorem stepsN_take {P : List Pt} {m : Nat} (h : m + 1 < P.length) : stepsN (P.take (m + 2)) = stepsN (P.take (m + 1)) + stepN (P[m]'(by omega)).2 P[m + 1].2 := by
  have e1 : P.take (m + 2) = P.take m ++ [P[m]'(by omega), P[m + 1]] := by
    show P.take (m + 1 + 1) = _
    rw [List.take_succ_eq_append_getElem h, List.take_succ_eq_append_getElem (by omega : m < P.length), List.append_assoc]; rfl
  have e2 : P.take (m + 1) = P.take m ++ [P[m]'(by omega)] := List.take_succ_eq_append_getElem (by omega)
  rw [e1, stepsN_snoc, ← e2]
theorem stepsN_one {P : List Pt} : stepsN (P.take 1) = 0 := by
  cases P with
  | nil => rfl
  | cons p P => rfl
theorem sumN_take {P : List Pt} {m : Nat} (h : m < P.length) : sumN (P.take (m + 1)) = sumN (P.take m) + P[m].2 := by
  rw [List.take_succ_eq_append_getElem h, sumN_append]; simp [sumN]
theorem store3 {w : World} {b : Nat} {t : TypeId} {x y z u v r : Value} (h : w.heap[b]? = some (.cells #[x, y, z] t (0, 0))) : (((w.setCell ⟨b, 0, none⟩ u).setCell ⟨b, 1, none⟩ v).setCell ⟨b, 2, none⟩ r).heap[b]? = some (.cells #[u, v, r] t (0, 0)) := by
  rw [setCell_get (setCell_get (setCell_get h))]; rfl
theorem store2 {w : World} {b : Nat} {t : TypeId} {x y u v : Value} (h : w.heap[b]? = some (.cells #[x, y] t (0, 0))) : ((w.setCell ⟨b, 0, none⟩ u).setCell ⟨b, 1, none⟩ v).heap[b]? = some (.cells #[u, v] t (0, 0)) := by
  rw [setCell_get (setCell_get h)]; rfl
theorem rcheck_no (n : Int) (w : World) : Calls Try.prog 46 #[.agg #[.int .i64 n, .bool false]] w fun e w' => e = .returned (.int .i64 0) ∧ Below w.heap.size w w' := by
  have HW := Lib.hid (below_alloc (Below.refl w.heap.size w) (.cells #[.int .i64 n, .bool false] 25))
  go_enter Try.func46, Try.ntmps46
  go_wp2_with fail
  go_ret
  exact ⟨rfl, HW.out⟩
theorem rput_no (t n : Int) (hn : In64 n) (w : World) : Calls Try.prog 49 #[.agg #[.int .i64 (gH (w128 t)), .int .u64 (gL (w128 t)), .int .u64 (0)], .agg #[.int .i64 n, .bool false]] w fun e w' => e = .returned (.agg #[.int .i64 (gH (w128 (t + n))), .int .u64 (gL (w128 (t + n))), .int .u64 (0)]) ∧ Below w.heap.size w w' := by
  have h := rput_any (w128 t) 0 n false (w128_I _) hn w
  rw [show ofT n false = n from rfl, show lo64 (0 + ofO false) = 0 by decide, w128_add] at h
  exact h
theorem rtake_no (t n : Int) (hn : In64 n) (w : World) : Calls Try.prog 64 #[.agg #[.int .i64 (gH (w128 t)), .int .u64 (gL (w128 t)), .int .u64 (0)], .agg #[.int .i64 n, .bool false]] w fun e w' => e = .returned (.agg #[.int .i64 (gH (w128 (t - n))), .int .u64 (gL (w128 (t - n))), .int .u64 (0)]) ∧ Below w.heap.size w w' := by
  have h := rtake_any (w128 t) 0 n false (w128_I _) (by unfold U64; omega) hn w
  rw [show ofT n false = n from rfl, show lo64 (0 - ofO false) = 0 by decide, show w128 (w128 t - n) = w128 (t - n) by unfold w128; omega] at h
  exact h
end Go.Proofs.Ytbhkgnhgecchcaa
