/- What a slide's functions make of points. Plain lists; no program. -/
import Derived.Test.YtfblmmnofhkkaaaOwn
namespace Go.Proofs.Ytfblmmnofhkkaaa
open Go.RowKit
/-- A point: its time, its number (none is over here). -/
abbrev Pt := Int × Int
def pc (p : Pt) : List Value := [.int .i64 p.1, .int .i64 p.2, .bool false]
/-- Points as cells. -/
def pcs (P : List Pt) : List Value := P.flatMap pc
theorem pcs_nil : pcs [] = [] := rfl
theorem pcs_cons (p : Pt) (P : List Pt) : pcs (p :: P) = pc p ++ pcs P := rfl
theorem pcs_append (P Q : List Pt) : pcs (P ++ Q) = pcs P ++ pcs Q := by unfold pcs; rw [List.flatMap_append]
theorem pcs_len : ∀ P : List Pt, (pcs P).length = P.length * 3
  | [] => rfl
  | p :: P => by rw [pcs_cons, List.length_append, pcs_len P]; simp [pc]; omega
theorem pcs_drop3 (p : Pt) (P : List Pt) : (pcs (p :: P)).drop 3 = pcs P := rfl
theorem pcs_take_init (P : List Pt) (p : Pt) : (pcs (P ++ [p])).take (P.length * 3) = pcs P := by
  rw [pcs_append, ← pcs_len P, List.take_left]
theorem pcs_get : ∀ (P : List Pt) (k : Nat) (h : k < P.length), (pcs P)[k * 3]? = some (.int .i64 P[k].1) ∧ (pcs P)[k * 3 + 1]? = some (.int .i64 P[k].2) ∧ (pcs P)[k * 3 + 2]? = some (.bool false)
  | [], k, h => by simp at h
  | p :: P, 0, _ => ⟨rfl, rfl, rfl⟩
  | p :: P, k + 1, h => by
    have := pcs_get P k (by simpa using h)
    rw [show (k + 1) * 3 = k * 3 + 3 by omega]
    simpa [pcs_cons, pc] using this
theorem pcs_one : ∀ (P : List Pt), ∀ u ∈ pcs P, u.oneCell' = true
  | [], u, h => by simp [pcs_nil] at h
  | p :: P, u, h => by
    rw [pcs_cons, List.mem_append] at h
    rcases h with h | h
    · simp only [pc, List.mem_cons, List.not_mem_nil, or_false] at h
      rcases h with rfl | rfl | rfl <;> rfl
    · exact pcs_one P u h
/-- The sum of the numbers. -/
def sumN : List Pt → Int
  | [] => 0
  | p :: P => p.2 + sumN P
theorem sumN_append (P Q : List Pt) : sumN (P ++ Q) = sumN P + sumN Q := by
  induction P with
  | nil => simp [sumN]
  | cons p P ih => simp only [List.cons_append, sumN, ih]; omega
/-- What one number adds behind another one. -/
def stepN (a b : Int) : Int := if b < a then b else b - a
def stepsN : List Pt → Int
  | [] => 0
  | [_] => 0
  | p :: q :: P => stepN p.2 q.2 + stepsN (q :: P)
theorem stepsN_snoc (P : List Pt) (a b : Pt) : stepsN (P ++ [a, b]) = stepsN (P ++ [a]) + stepN a.2 b.2 := by
  induction P with
  | nil => simp [stepsN]
  | cons p P ih =>
    cases P with
    | nil => simp only [List.cons_append, List.nil_append, stepsN]; omega
    | cons q P => simp only [List.cons_append, stepsN] at ih ⊢; omega
/-- Does a number stand ahead of another one for good? -/
def aheadN (sign : Bool) (a b : Int) : Bool := if sign then decide (b < a) else decide (a < b)
/-- Those points that stand ahead of all that come behind them. -/
def sfx (sign : Bool) : List Pt → List Pt
  | [] => []
  | p :: P => if P.all (fun q => aheadN sign p.2 q.2) then p :: sfx sign P else sfx sign P
theorem sfx_sub (sign : Bool) : ∀ P : List Pt, (sfx sign P).Sublist P
  | [] => List.Sublist.slnil
  | p :: P => by
    unfold sfx; split
    · exact (sfx_sub sign P).cons_cons p
    · exact (sfx_sub sign P).cons p
theorem sfx_ne {sign : Bool} : ∀ {P : List Pt}, P ≠ [] → sfx sign P ≠ []
  | [], h => absurd rfl h
  | [p], _ => by simp [sfx]
  | p :: q :: P, _ => by
    unfold sfx; split
    · simp
    · exact sfx_ne (by simp)
theorem ahead_trans {sign : Bool} {a b c : Int} (h1 : aheadN sign a b = true) (h2 : aheadN sign b c = true) : aheadN sign a c = true := by
  unfold aheadN at *
  cases sign <;> simp at * <;> omega
/-- Behind one more point those stay that stand ahead of it, too; and it. -/
theorem sfx_snoc (sign : Bool) (x : Pt) : ∀ P : List Pt, sfx sign (P ++ [x]) = (sfx sign P).filter (fun p => aheadN sign p.2 x.2) ++ [x]
  | [] => rfl
  | p :: P => by
    have ih := sfx_snoc sign x P
    simp only [List.cons_append, sfx, List.all_append, List.all_cons, List.all_nil, Bool.and_true]
    by_cases h1 : (P.all fun q => aheadN sign p.2 q.2) = true
    · by_cases h2 : aheadN sign p.2 x.2 = true
      · simp [h1, h2, ih]
      · simp only [Bool.not_eq_true] at h2
        simp [h1, h2, ih]
    · simp only [Bool.not_eq_true] at h1
      simp [h1, ih]
/-- They rise, or fall: each stands ahead of the next one. -/
theorem sfx_chain (sign : Bool) : ∀ P : List Pt, (sfx sign P).Pairwise fun a b => aheadN sign a.2 b.2 = true
  | [] => by simp [sfx]
  | p :: P => by
    unfold sfx; split
    · rename_i h
      refine List.Pairwise.cons (fun q hq => ?_) (sfx_chain sign P)
      exact List.all_eq_true.1 h q ((sfx_sub sign P).subset hq)
    · exact sfx_chain sign P
/-- What is cut off at the end, one by one: the same as what does not stand ahead. -/
theorem filter_snoc_ahead {sign : Bool} {R : List Pt} {a x : Pt} (hp : (R ++ [a]).Pairwise fun a b => aheadN sign a.2 b.2 = true) :
    (aheadN sign a.2 x.2 = true → (R ++ [a]).filter (fun p => aheadN sign p.2 x.2) = R ++ [a]) ∧ (aheadN sign a.2 x.2 = false → (R ++ [a]).filter (fun p => aheadN sign p.2 x.2) = R.filter (fun p => aheadN sign p.2 x.2)) := by
  rw [List.pairwise_append] at hp
  refine ⟨fun h => ?_, fun h => ?_⟩
  · rw [List.filter_eq_self]
    intro p hm
    rcases List.mem_append.1 hm with hm | hm
    · exact ahead_trans (hp.2.2 p hm a (by simp)) h
    · simp only [List.mem_singleton] at hm; subst hm; exact h
  · rw [List.filter_append]; simp [h]
/-- Times rise. -/
def Rise (P : List Pt) : Prop := P.Pairwise fun a b => a.1 < b.1
/-- The first one goes. -/
theorem sfx_pop {sign : Bool} {p : Pt} {P : List Pt} (hr : Rise (p :: P)) : sfx sign P = match sfx sign (p :: P) with | [] => [] | q :: Q => if q.1 = p.1 then Q else q :: Q := by
  unfold Rise at hr
  rw [List.pairwise_cons] at hr
  have hne : ∀ q ∈ sfx sign P, q.1 ≠ p.1 := fun q hq e => by
    have := hr.1 q ((sfx_sub sign P).subset hq); omega
  by_cases h : (P.all fun q => aheadN sign p.2 q.2) = true
  · simp [sfx, h]
  · simp only [Bool.not_eq_true] at h
    simp only [sfx, h, Bool.false_eq_true, if_false]
    cases hs : sfx sign P with
    | nil => rfl
    | cons q Q =>
      have := hne q (by rw [hs]; simp)
      simp [this]
end Go.Proofs.Ytfblmmnofhkkaaa
