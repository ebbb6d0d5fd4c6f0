/- The makers of a slide, whatever they are: one word for each method. -/
import Derived.Test.YtbhkgnhgecchcaaSlF
namespace Go.Proofs.Ytbhkgnhgecchcaa
open Go.RowKit
theorem cm_sum_push (v : Value) (az : Array Value) (W : World) : (callMethod (.iface 73 v) "waterwheel/slide.push" az).run Try.prog W = .ok (.enter 89 (#[v] ++ az)) W := by kernel_rfl
theorem cm_sum_pop (v : Value) (az : Array Value) (W : World) : (callMethod (.iface 73 v) "waterwheel/slide.pop" az).run Try.prog W = .ok (.enter 88 (#[v] ++ az)) W := by kernel_rfl
theorem cm_sum_value (v : Value) (az : Array Value) (W : World) : (callMethod (.iface 73 v) "waterwheel/slide.value" az).run Try.prog W = .ok (.enter 90 (#[v] ++ az)) W := by kernel_rfl
theorem cm_count_push (v : Value) (az : Array Value) (W : World) : (callMethod (.iface 79 v) "waterwheel/slide.push" az).run Try.prog W = .ok (.enter 99 (#[v] ++ az)) W := by kernel_rfl
theorem cm_count_pop (v : Value) (az : Array Value) (W : World) : (callMethod (.iface 79 v) "waterwheel/slide.pop" az).run Try.prog W = .ok (.enter 98 (#[v] ++ az)) W := by kernel_rfl
theorem cm_count_value (v : Value) (az : Array Value) (W : World) : (callMethod (.iface 79 v) "waterwheel/slide.value" az).run Try.prog W = .ok (.enter 100 (#[v] ++ az)) W := by kernel_rfl
theorem cm_end_push (v : Value) (az : Array Value) (W : World) : (callMethod (.iface 80 v) "waterwheel/slide.push" az).run Try.prog W = .ok (.enter 102 (#[v] ++ az)) W := by kernel_rfl
theorem cm_end_pop (v : Value) (az : Array Value) (W : World) : (callMethod (.iface 80 v) "waterwheel/slide.pop" az).run Try.prog W = .ok (.enter 101 (#[v] ++ az)) W := by kernel_rfl
theorem cm_end_value (v : Value) (az : Array Value) (W : World) : (callMethod (.iface 80 v) "waterwheel/slide.value" az).run Try.prog W = .ok (.enter 103 (#[v] ++ az)) W := by kernel_rfl
theorem cm_last_push (v : Value) (az : Array Value) (W : World) : (callMethod (.iface 83 v) "waterwheel/slide.push" az).run Try.prog W = .ok (.enter 106 (#[v] ++ az)) W := by kernel_rfl
theorem cm_last_pop (v : Value) (az : Array Value) (W : World) : (callMethod (.iface 83 v) "waterwheel/slide.pop" az).run Try.prog W = .ok (.enter 105 (#[v] ++ az)) W := by kernel_rfl
theorem cm_last_value (v : Value) (az : Array Value) (W : World) : (callMethod (.iface 83 v) "waterwheel/slide.value" az).run Try.prog W = .ok (.enter 107 (#[v] ++ az)) W := by kernel_rfl
theorem cm_inc_push (v : Value) (az : Array Value) (W : World) : (callMethod (.iface 84 v) "waterwheel/slide.push" az).run Try.prog W = .ok (.enter 109 (#[v] ++ az)) W := by kernel_rfl
theorem cm_inc_pop (v : Value) (az : Array Value) (W : World) : (callMethod (.iface 84 v) "waterwheel/slide.pop" az).run Try.prog W = .ok (.enter 108 (#[v] ++ az)) W := by kernel_rfl
theorem cm_inc_value (v : Value) (az : Array Value) (W : World) : (callMethod (.iface 84 v) "waterwheel/slide.value" az).run Try.prog W = .ok (.enter 110 (#[v] ++ az)) W := by kernel_rfl
/-- A method of an interface value, called. -/
def MethC (name : String) (iv : Value) (args : Array Value) (w : World) (R : Ending → World → Prop) : Prop :=
  ∃ (T : TypeId) (rv : Value) (f : FuncId), iv = .iface T rv ∧ (∀ az W, (callMethod (.iface T rv) name az).run Try.prog W = .ok (.enter f (#[rv] ++ az)) W) ∧ Calls Try.prog f (#[rv] ++ args) w R
/-- A maker of the function fn, of the points P, in memory of M. -/
def MkW (w : World) (M : Nat → Prop) (fn : Int) (iv : Value) (P : List Pt) (K : Nat) : Prop :=
  (fn = 1 ∧ ∃ b, iv = .iface 73 (ptrTo b) ∧ M b ∧ GrAt w b (w128 (sumN P)) 77) ∨
  (fn = 2 ∧ iv = .iface 79 (.agg #[])) ∨
  (∃ sign : Bool, fn = (if sign then 4 else 3) ∧ ∃ b, iv = .iface 80 (ptrTo b) ∧ EndW w M b sign P K) ∨
  (fn = 5 ∧ iv = .iface 83 (.agg #[])) ∨
  (fn = 6 ∧ ∃ b, iv = .iface 84 (ptrTo b) ∧ M b ∧ GrAt w b (w128 (stepsN P)) 85)
section
variable {w w' : World} {M N S : Nat → Prop} {fn : Int} {iv : Value} {P : List Pt} {K : Nat}
theorem MkW.keep (h : MkW w M fn iv P K) (ho : Only S w w') (hn : ∀ k, M k → k < w.heap.size → ¬ S k) : MkW w' M fn iv P K := by
  rcases h with ⟨h1, b, h2, h3, h4⟩ | h | ⟨sg, h1, b, h2, h3⟩ | h | ⟨h1, b, h2, h3, h4⟩
  · exact .inl ⟨h1, b, h2, h3, ho.get h4 (hn b h3 (only_lt h4))⟩
  · exact .inr (.inl h)
  · exact .inr (.inr (.inl ⟨sg, h1, b, h2, h3.keep ho hn⟩))
  · exact .inr (.inr (.inr (.inl h)))
  · exact .inr (.inr (.inr (.inr ⟨h1, b, h2, h3, ho.get h4 (hn b h3 (only_lt h4))⟩)))
theorem MkW.weak (h : MkW w M fn iv P K) (hN : ∀ k, k < w.heap.size → M k → N k) : MkW w N fn iv P K := by
  rcases h with ⟨h1, b, h2, h3, h4⟩ | h | ⟨sg, h1, b, h2, h3⟩ | h | ⟨h1, b, h2, h3, h4⟩
  · exact .inl ⟨h1, b, h2, hN b (only_lt h4) h3, h4⟩
  · exact .inr (.inl h)
  · exact .inr (.inr (.inl ⟨sg, h1, b, h2, h3.weak hN⟩))
  · exact .inr (.inr (.inr (.inl h)))
  · exact .inr (.inr (.inr (.inr ⟨h1, b, h2, hN b (only_lt h4) h3, h4⟩)))
theorem MkW.below (h : MkW w M fn iv P K) (hb : Below w.heap.size w w') : MkW w' M fn iv P K := h.keep (S := fun _ => False) (Only.of_below hb) (fun _ _ _ h => h)
end
def PushP (M : Nat → Prop) (fn : Int) (iv : Value) (P : List Pt) (K : Nat) (w : World) (e : Ending) (w' : World) : Prop := e = .returned (.tuple #[]) ∧ MkW w' (fun k => M k ∨ w.heap.size ≤ k) fn iv P K ∧ Only M w w'
theorem mk_push {w : World} {M : Nat → Prop} {fn : Int} {iv : Value} {P : List Pt} {K : Nat} (h : MkW w M fn iv P K) (x : Pt) (g o c : Nat) (hr : RPt w (some ⟨g, o, none⟩) (P ++ [x])) (hi : ∀ p ∈ P ++ [x], In64 p.2) (hP : P.length ≤ 1099511627775) (hK : K ≤ 1099511627775) :
    MethC "waterwheel/slide.push" iv #[.slice (some ⟨g, o, none⟩) (P.length + 1) c] w (PushP M fn iv (P ++ [x]) (K + 1) w) := by
  have hx := hi x (by simp)
  rcases h with ⟨h1, b, rfl, h3, h4⟩ | ⟨h1, rfl⟩ | ⟨sg, h1, b, rfl, h3⟩ | ⟨h1, rfl⟩ | ⟨h1, b, rfl, h3, h4⟩
  · refine ⟨_, _, _, rfl, cm_sum_push _, (sum_push b _ g o c P x w h4 hr hx (by omega)).mono fun e w' h => ⟨h.1, .inl ⟨h1, b, rfl, .inl h3, ?_⟩, h.2.2.mono (fun k _ hk => hk ▸ h3)⟩⟩
    have := h.2.1
    rwa [w128_add, show sumN P + x.2 = sumN (P ++ [x]) by rw [sumN_append]; simp [sumN]] at this
  · exact ⟨_, _, _, rfl, cm_count_push _, (count_push _ w).mono fun e w' h => ⟨h.1, .inr (.inl ⟨h1, rfl⟩), Only.of_below h.2⟩⟩
  · exact ⟨_, _, _, rfl, cm_end_push _, (end_push M b sg P x K g o c w h3 hr (by omega) hK).mono fun e w' h => ⟨h.1, .inr (.inr (.inl ⟨sg, h1, b, rfl, h.2.1⟩)), h.2.2⟩⟩
  · exact ⟨_, _, _, rfl, cm_last_push _, (last_push _ w).mono fun e w' h => ⟨h.1, .inr (.inr (.inr (.inl ⟨h1, rfl⟩))), Only.of_below h.2⟩⟩
  · rcases List.eq_nil_or_concat P with rfl | ⟨Q, a, rfl⟩
    · refine ⟨_, _, _, rfl, cm_inc_push _, (inc_push1 b _ c w).mono fun e w' h => ⟨h.1, .inr (.inr (.inr (.inr ⟨h1, b, rfl, .inl h3, ?_⟩))), h.2 ▸ Only.refl _ _⟩⟩
      rw [← h.2]; exact h4
    · rw [List.concat_eq_append] at *
      rw [List.append_assoc] at hr
      refine ⟨_, _, _, rfl, cm_inc_push _, ?_⟩
      have hl : (Q ++ [a]).length + 1 = Q.length + 2 := by simp
      rw [hl]
      refine (inc_push b _ g o c Q a x w h4 hr (hi a (by simp)) hx (by simp at hP; omega)).mono fun e w' h => ⟨h.1, .inr (.inr (.inr (.inr ⟨h1, b, rfl, .inl h3, ?_⟩))), h.2.2.mono (fun k _ hk => hk ▸ h3)⟩
      have := h.2.1
      rwa [w128_add, ← stepsN_snoc, show Q ++ [a, x] = Q ++ [a] ++ [x] by simp] at this
theorem mk_pop {w : World} {M : Nat → Prop} {fn : Int} {iv : Value} {p : Pt} {P : List Pt} {K n : Nat} (h : MkW w M fn iv (p :: P) K) (g o c : Nat) (hr : RPt w (some ⟨g, o, none⟩) (p :: P)) (hn : n = (p :: P).length) (hi : ∀ q ∈ p :: P, In64 q.2) (hrise : Rise (p :: P)) (hK : K ≤ 1099511627775) :
    MethC "waterwheel/slide.pop" iv #[.slice (some ⟨g, o, none⟩) n c] w (fun e w' => e = .returned (.tuple #[]) ∧ MkW w' M fn iv P K ∧ Only M w w') := by
  have hx := hi p (by simp)
  rcases h with ⟨h1, b, rfl, h3, h4⟩ | ⟨h1, rfl⟩ | ⟨sg, h1, b, rfl, h3⟩ | ⟨h1, rfl⟩ | ⟨h1, b, rfl, h3, h4⟩
  · refine ⟨_, _, _, rfl, cm_sum_pop _, (sum_pop b _ g o c n P p w h4 hr hx hn).mono fun e w' h => ⟨h.1, .inl ⟨h1, b, rfl, h3, ?_⟩, h.2.2.mono (fun k _ hk => hk ▸ h3)⟩⟩
    have := h.2.1
    rwa [w128_sub, show sumN (p :: P) - p.2 = sumN P by simp only [sumN]; omega] at this
  · exact ⟨_, _, _, rfl, cm_count_pop _, (count_pop _ w).mono fun e w' h => ⟨h.1, .inr (.inl ⟨h1, rfl⟩), Only.of_below h.2⟩⟩
  · exact ⟨_, _, _, rfl, cm_end_pop _, (end_pop M b sg p P K g o c n w h3 hr hn hrise (by omega)).mono fun e w' h => ⟨h.1, .inr (.inr (.inl ⟨sg, h1, b, rfl, h.2.1⟩)), h.2.2.mono (fun k _ hk => hk ▸ h3.1)⟩⟩
  · exact ⟨_, _, _, rfl, cm_last_pop _, (last_pop _ w).mono fun e w' h => ⟨h.1, .inr (.inr (.inr (.inl ⟨h1, rfl⟩))), Only.of_below h.2⟩⟩
  · cases P with
    | nil =>
      subst hn
      refine ⟨_, _, _, rfl, cm_inc_pop _, (inc_pop1 b _ c w).mono fun e w' h => ⟨h.1, .inr (.inr (.inr (.inr ⟨h1, b, rfl, h3, ?_⟩))), h.2 ▸ Only.refl _ _⟩⟩
      rw [← h.2]; exact h4
    | cons q P =>
      refine ⟨_, _, _, rfl, cm_inc_pop _, (inc_pop b _ g o c n P p q w h4 hr hx (hi q (by simp)) hn).mono fun e w' h => ⟨h.1, .inr (.inr (.inr (.inr ⟨h1, b, rfl, h3, ?_⟩))), h.2.2.mono (fun k _ hk => hk ▸ h3)⟩⟩
      have := h.2.1
      rwa [w128_sub, show stepsN (p :: q :: P) - stepN p.2 q.2 = stepsN (q :: P) by simp only [stepsN]; omega] at this
/-- What the function makes of the points. -/
def wv (fn : Int) (P : List Pt) : Int × Bool :=
  if fn = 1 then (gvN (w128 (sumN P)) 0, gvO (w128 (sumN P)) 0)
  else if fn = 2 then (P.length, false)
  else if fn = 3 then (((sfx false P).head?.map (·.2)).getD 0, false)
  else if fn = 4 then (((sfx true P).head?.map (·.2)).getD 0, false)
  else if fn = 5 then ((P.getLast?.map (·.2)).getD 0, false)
  else (gvN (w128 (stepsN P)) 0, gvO (w128 (stepsN P)) 0)
theorem mk_value {w : World} {M : Nat → Prop} {fn : Int} {iv : Value} {P : List Pt} {K : Nat} (h : MkW w M fn iv P K) (g o c : Nat) (hr : RPt w (some ⟨g, o, none⟩) P) (hne : P ≠ []) (hP : P.length ≤ 1099511627775) :
    MethC "waterwheel/slide.value" iv #[.slice (some ⟨g, o, none⟩) P.length c] w (fun e w' => e = .returned (.agg #[.int .i64 (wv fn P).1, .bool (wv fn P).2]) ∧ Below w.heap.size w w') := by
  rcases h with ⟨rfl, b, rfl, h3, h4⟩ | ⟨rfl, rfl⟩ | ⟨sg, rfl, b, rfl, h3⟩ | ⟨rfl, rfl⟩ | ⟨rfl, b, rfl, h3, h4⟩
  · exact ⟨_, _, _, rfl, cm_sum_value _, sum_value b _ (w128_I _) _ w h4⟩
  · exact ⟨_, _, _, rfl, cm_count_value _, count_value _ _ _ w⟩
  · obtain ⟨p, Q, hs⟩ : ∃ p Q, sfx sg P = p :: Q := by
      cases hc : sfx sg P with
      | nil => exact absurd hc (sfx_ne hne)
      | cons p Q => exact ⟨p, Q, rfl⟩
    refine ⟨_, _, _, rfl, cm_end_value _, ?_⟩
    have := end_value M b sg P K (.slice (some ⟨g, o, none⟩) P.length c) w h3 p Q hs
    cases sg <;> (simp only [wv, hs]; exact this)
  · rcases List.eq_nil_or_concat P with rfl | ⟨Q, a, rfl⟩
    · exact absurd rfl hne
    · rw [List.concat_eq_append] at *
      refine ⟨_, _, _, rfl, cm_last_value _, ?_⟩
      have := last_value g o c Q a w hr (by simp at hP; omega)
      have hl : (Q ++ [a]).length = Q.length + 1 := by simp
      rw [hl]
      have hv : wv 5 (Q ++ [a]) = (a.2, false) := by simp [wv]
      rw [hv]; exact this
  · exact ⟨_, _, _, rfl, cm_inc_value _, inc_value b _ (w128_I _) _ w h4⟩
end Go.Proofs.Ytbhkgnhgecchcaa
