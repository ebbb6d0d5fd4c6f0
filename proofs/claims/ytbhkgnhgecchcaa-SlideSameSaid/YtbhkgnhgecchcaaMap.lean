/- A map with whole numbers for keys that the call itself makes: entries put one by one; a look-up. No program. -/
import Derived.Test.YtbhkgnhgecchcaaOnl
import Derived.MapKept
namespace Go.Proofs.Ytbhkgnhgecchcaa
open Go.RowKit Go.MapKept
def MapI (w : World) (r : Nat) (l : List (Int × Value)) : Prop := ∃ es c, w.heap[r]? = some (.map es c) ∧ es.toList.map (fun e => (e.key, e.val)) = l.map fun p => (Value.int .i64 p.1, p.2)
def findI (k : Int) (l : List (Int × Value)) : Option Value := (l.find? fun p => p.1 == k).map (·.2)
theorem findNow_none (ik : IntKind) (k : Int) : ∀ (es : List MapEntry) (l : List (Int × Value)) (i : Nat), es.map (fun e => (e.key, e.val)) = l.map (fun p => (Value.int .i64 p.1, p.2)) → (∀ p ∈ l, p.1 ≠ k) → Instr.findNow (.int ik) (.int .i64 k) es i = some none
  | [], _, _, _, _ => rfl
  | e :: es, [], i, h, _ => by simp at h
  | e :: es, p :: l, i, h, hn => by
    simp only [List.map_cons, List.cons.injEq, Prod.mk.injEq] at h
    obtain ⟨⟨h1, h2⟩, h3⟩ := h
    have hp : (k == p.1) = false := beq_eq_false_iff_ne.2 (fun e => hn p List.mem_cons_self e.symm)
    simp only [Instr.findNow, h1, Instr.sameNow, if_true, hp]
    exact findNow_none ik k es l _ h3 (fun q hq => hn q (List.mem_cons_of_mem _ hq))
theorem findNow_find (ik : IntKind) (k : Int) : ∀ (es : List MapEntry) (l : List (Int × Value)) (i : Nat), es.map (fun e => (e.key, e.val)) = l.map (fun p => (Value.int .i64 p.1, p.2)) → ∃ r, Instr.findNow (.int ik) (.int .i64 k) es i = some r ∧ r.map (·.2) = findI k l
  | [], [], _, _ => ⟨none, rfl, rfl⟩
  | [], _ :: _, _, h => by simp at h
  | e :: es, [], i, h => by simp at h
  | e :: es, p :: l, i, h => by
    simp only [List.map_cons, List.cons.injEq, Prod.mk.injEq] at h
    obtain ⟨⟨h1, h2⟩, h3⟩ := h
    by_cases hp : p.1 = k
    · have e1 : (k == p.1) = true := by simp [hp]
      refine ⟨some (i, e.val), by simp only [Instr.findNow, h1, Instr.sameNow, if_true, e1], ?_⟩
      simp [findI, hp, h2]
    · have e1 : (k == p.1) = false := beq_eq_false_iff_ne.2 (fun e => hp e.symm)
      obtain ⟨r, hr, hf⟩ := findNow_find ik k es l (i + 1) h3
      refine ⟨r, by simp only [Instr.findNow, h1, Instr.sameNow, if_true, e1]; exact hr, ?_⟩
      rw [hf]; simp [findI, hp]
section
variable {P : Program} {T K E : TypeId} {ik : IntKind}
theorem run_ck {w : World} (hK : P.underlying K = some (.int ik)) (b : Bool) (n : Nat) (k : Int) : (Instr.checkKey b (n + 1) K (.int .i64 k)).run P w = .ok () w := by
  unfold Instr.checkKey
  simp only [Sem.run_bind, run_underlying hK, Result.andThen]
  rfl
theorem run_ins {w : World} {r : Nat} {l : List (Int × Value)} (hT : P.underlying T = some (.map K E)) (hK : P.underlying K = some (.int ik)) (h : MapI w r l) (k : Int) (v : Value) (hn : ∀ p ∈ l, p.1 ≠ k) :
    ∃ w', (Instr.mapUpdate T (.map (some r)) (.int .i64 k) v).run P w = .ok () w' ∧ MapI w' r (l ++ [(k, v)]) ∧ Only (fun x => x = r) w w' := by
  obtain ⟨es, c, h1, h2⟩ := h
  have h3 := findNow_none ik k es.toList l 0 h2 hn
  refine ⟨{ w with heap := w.heap.setIfInBounds r (.map (es.push { key := .int .i64 k, val := v, born := c }) (c + 1)) }, ?_, ⟨es.push { key := .int .i64 k, val := v, born := c }, c + 1, ?_, ?_⟩, ⟨rfl, rfl, rfl, by simp, fun i _ hi => ?_⟩⟩
  · have hc := fun w => run_ck (P := P) (w := w) hK false 9999 k
    simp only [Nat.reduceAdd] at hc
    simp [Instr.mapUpdate, run_underlying hT, run_underlying hK, hc, Instr.findKey, Go.MapKept.run_getObj_map h1, h3, Go.MapKept.run_setObj_map _ h1]
  · simp [only_lt h1]
  · simp [h2]
  · simp only [Array.getElem?_setIfInBounds]
    rw [if_neg (fun e => hi e.symm)]
theorem run_look {w : World} {r : Nat} {l : List (Int × Value)} {z : Value} (hT : P.underlying T = some (.map K E)) (hK : P.underlying K = some (.int ik)) (hz : ∀ w, (zeroValue E).run P w = .ok z w) (h : MapI w r l) (k : Int) :
    (Instr.lookup T (.map (some r)) (.int .i64 k) false).run P w = .ok ((findI k l).getD z) w := by
  obtain ⟨es, c, h1, h2⟩ := h
  obtain ⟨q, h3, h4⟩ := findNow_find ik k es.toList l 0 h2
  have hc := fun b w => run_ck (P := P) (w := w) hK b 9999 k
  simp only [Nat.reduceAdd] at hc
  cases q with
  | none =>
    have : findI k l = none := by rw [← h4]; rfl
    simp [Instr.lookup, run_underlying hT, run_underlying hK, hc, Instr.findKey, Go.MapKept.run_getObj_map h1, h3, this, hz]
  | some x =>
    have : findI k l = some x.2 := by rw [← h4]; rfl
    simp [Instr.lookup, run_underlying hT, run_underlying hK, hc, Instr.findKey, Go.MapKept.run_getObj_map h1, h3, this]
end
theorem MapI.new (w : World) : MapI (w.alloc (.map #[] 0)) w.heap.size [] := ⟨#[], 0, newB _ _, rfl⟩
theorem MapI.keep {w w' : World} {r : Nat} {l : List (Int × Value)} {S : Nat → Prop} (h : MapI w r l) (ho : Only S w w') (hn : ¬ S r) : MapI w' r l := by
  obtain ⟨es, c, h1, h2⟩ := h
  exact ⟨es, c, ho.get h1 hn, h2⟩
end Go.Proofs.Ytbhkgnhgecchcaa
