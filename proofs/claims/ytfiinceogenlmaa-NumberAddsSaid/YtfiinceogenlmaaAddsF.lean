/- NumberAdds: for every input the law returns true, and its arguments read as they did. No condition. -/
import Derived.Test.YtfiinceogenlmaaAdds
import Derived.Test.YtfiinceogenlmaaAddsE
import Derived.Test.YtfiinceogenlmaaLaw
import Derived.Test.YtfiinceogenlmaaFrame
import Derived.Deep.SlicePairs
import Derived.ChangeSlices
namespace Go.Proofs.Ytfiinceogenlmaa
open Go.ChangeShapes Go.WideShapes Go.ChangeAt Go.RowKit Go.Joins Go.Deep
theorem cells64 : Try.prog.cellsOf 2 = 1 := by kernel_rfl
theorem cellsInt : Try.prog.cellsOf 3 = 1 := by kernel_rfl
theorem cellsBool : Try.prog.cellsOf 4 = 1 := by kernel_rfl
theorem cell_lt {w : World} {a : Addr} {v : Value} (h : w.cell? a = some v) : a.block < w.heap.size := by
  rcases Nat.lt_or_ge a.block w.heap.size with h1 | h1
  · exact h1
  · simp [World.cell?, Array.getElem?_eq_none h1] at h
theorem add_block (a : Addr) (n : Nat) : (a.add n).block = a.block := by unfold Addr.add; split <;> rfl
section
variable {H : Type} {enc : TypeId × Value → H} {w : World} {base : Nat} {spare : Nat → Bool} {held : Bool}
/-- An argument that is a slice of values. -/
theorem open_els {r : Reach} {b0 : Nat} {v : Value} {d : DataW H} {p : List MemPlace} (hv : Value.okWide Try.prog w r b0 22 v) (h : DataW.Trod enc Try.prog w base spare held 22 v d p) :
    v = .slice none 0 0 ∨ ∃ (a : Addr) (l : List El) (cap : Nat), v = .slice (some a) l.length cap ∧ l.length ≤ cap ∧ cap ≤ maxLen ∧ liesE w a l ∧ (∀ e ∈ l, I64 e.1) := by
  obtain ⟨A, n0, c0, rfl⟩ := okWide_slice Try.underlying22 hv
  obtain ⟨fuel, hf⟩ := h
  rcases open_slice_pairs Try.underlying22 Try.underlying25 cellsVal rfl rfl cells64 cellsBool hf with ⟨hc, _⟩ | ⟨a, len, cap, m, n, V0, V1, D0, D1, P0, P1, hc, _, hl, hm, hmm, _, hx⟩
  · exact .inl (by simpa [Value.cells] using hc)
  · refine .inr ?_
    have hlm : len ≤ m := by rw [hmm]; split <;> omega
    have hx' : ∀ i, ∃ e : El, i < m → V0 i = .int .i64 e.1 ∧ V1 i = .bool e.2 ∧ I64 e.1 := fun i => by
      by_cases hi : i < m
      · obtain ⟨_, _, h0, h1⟩ := hx i hi
        obtain ⟨x, e0, _, wx⟩ := DataW.trod_int Try.underlying2 h0
        obtain ⟨y, e1, _⟩ := DataW.trod_bool Try.underlying4 h1
        simp at e0 e1
        exact ⟨(x, y), fun _ => ⟨e0, e1, wf_I64 wx⟩⟩
      · exact ⟨(0, false), fun h => absurd h hi⟩
    have hf := fun i => Classical.choose_spec (hx' i)
    generalize (fun i => Classical.choose (hx' i)) = F at hf
    have hfF : ∀ i, i < m → V0 i = .int .i64 (Classical.choose (hx' i)).1 ∧ V1 i = .bool (Classical.choose (hx' i)).2 ∧ I64 (Classical.choose (hx' i)).1 := fun i hi => Classical.choose_spec (hx' i) hi
    refine ⟨a, (List.range len).map fun i => Classical.choose (hx' i), cap, ?_, by simpa using hl, hm, fun i hi => ?_, fun e he => ?_⟩
    · simpa [Value.cells] using hc
    · have hi' : i < len := by simpa using hi
      obtain ⟨c1, c2, _, _⟩ := hx i (by omega)
      obtain ⟨g1, g2, _⟩ := hfF i (by omega)
      rw [g1] at c1
      rw [g2] at c2
      simp only [List.getElem_map, List.getElem_range]
      exact ⟨c1, c2⟩
    · obtain ⟨i, hi, rfl⟩ := List.mem_map.1 he
      exact (hfF i (by have := List.mem_range.1 hi; omega)).2.2
/-- An argument that is a slice of numbers. -/
theorem open_nums {r : Reach} {b0 : Nat} {v : Value} {d : DataW H} {p : List MemPlace} (hv : Value.okWide Try.prog w r b0 23 v) (h : DataW.Trod enc Try.prog w base spare held 23 v d p) :
    ∃ (A : Option Addr) (zs : List Int) (cap : Nat), v = .slice A zs.length cap ∧ zs.length ≤ maxLen ∧ (∀ z ∈ zs, I64 z) ∧ (∀ ba, A = some ba → ∀ i (h : i < zs.length), w.cell? (ba.add i) = some (.int .i64 zs[i])) ∧ (0 < zs.length → A ≠ none) := by
  obtain ⟨A, n0, c0, rfl⟩ := okWide_slice Try.underlying23 hv
  obtain ⟨fuel, hf⟩ := h
  rcases open_ints Try.underlying23 Try.underlying3 cellsInt hf with ⟨hc, _⟩ | ⟨a, len, cap, zs, hc, _, hl, hm, hz, _, hx, hw⟩
  · exact ⟨none, [], 0, by simpa [Value.cells] using hc, by simp, by simp, by simp, by simp⟩
  · have hlz : len ≤ zs.length := by rw [hz]; split <;> omega
    have hlen : (zs.take len).length = len := by simp; omega
    refine ⟨some a, zs.take len, cap, ?_, by omega, fun z hz => wf_I64 (hw z (List.mem_of_mem_take hz)), fun ba e i hi => ?_, by simp⟩
    · rw [hlen]; simpa [Value.cells] using hc
    · cases e
      have := hx i (by omega)
      rw [this]
      have hi' : i < zs.length := by omega
      simp [List.getD_eq_getElem?_getD, hi']
end
theorem adds_any {w : World} (l : List El) (hl : ∀ e ∈ l, I64 e.1) (A : Option Addr) (lc : Nat) (hA : ∀ a, A = some a → liesE w a l) (hlc : l.length ≤ lc) (hlm : lc ≤ maxLen) (hn : A = none → l = [] ∧ lc = 0)
    (ob : Option Addr) (zs : List Int) (bc : Nat) (hz : zs.length ≤ maxLen) (hzw : ∀ z ∈ zs, I64 z) (hbb : ∀ ba, ob = some ba → ∀ i (h : i < zs.length), w.cell? (ba.add i) = some (.int .i64 zs[i])) (hob : 0 < zs.length → ob ≠ none)
    (a b : Int) (x y : Bool) (ha : I64 a) (hb : I64 b) :
    Calls Try.prog 3 #[.slice A l.length lc, .slice ob zs.length bc, .agg #[.int .i64 a, .bool x], .agg #[.int .i64 b, .bool y]] w fun e w' => e = .returned (.bool true) ∧ Below w.heap.size w w' := by
  by_cases ho : 500 < l.length ∨ 500 < zs.length ∨ (x = true ∧ a ≠ 0) ∨ (y = true ∧ b ≠ 0)
  · exact adds_out A ob l.length lc zs.length bc a b x y ho (by omega) hz w
  · have va : Val a x := ⟨ha, fun h => Decidable.byContradiction fun h0 => ho (.inr (.inr (.inl ⟨h, h0⟩)))⟩
    have vb : Val b y := ⟨hb, fun h => Decidable.byContradiction fun h0 => ho (.inr (.inr (.inr ⟨h, h0⟩)))⟩
    have h5 : l.length ≤ 500 := by omega
    have hz5 : zs.length ≤ 500 := by omega
    by_cases h0 : 0 < l.length
    · cases A with
      | none => have := (hn rfl).1; subst this; simp at h0
      | some la =>
        have hll := hA la rfl
        have hla : la.block < w.heap.size := by have := cell_lt (hll 0 h0).1; rwa [add_block] at this
        refine adds_core l hl h5 h0 la lc ob zs bc hz5 hzw a b x y va vb w hla hll (fun ba e i hi => ⟨?_, hbb ba e i hi⟩) hob
        have := cell_lt (hbb ba e i hi); rwa [add_block] at this
    · have : l = [] := List.eq_nil_of_length_eq_zero (by omega)
      subst this
      exact adds_empty A lc (fun h => (hn h).2) ob zs.length bc hz5 a b x y va vb w
set_option maxRecDepth 100000 in
theorem numberAdds_lifted (os : Os) (started : os.Started) (H : Type) (enc : TypeId × Value → H) :
    ReturnsInHanded {} Try.checked os 3 .any (Rows.numberAddsSpec.pre6 enc Try.prog Try.f3 Rows.numberAddsRow.domain false) (Rows.numberAddsSpec.post enc Try.prog Try.f3 false true false false) := by
  refine returnsInHanded_of_change (C := Try.checked) own started (by kernel_rfl) Try.func3
    (ChangeSpec.witness6 (enc := enc) (C := Try.checked) false ⟨#[], #[.slice none 0 0, .slice none 0 0, .agg #[.int .i64 0, .bool false], .agg #[.int .i64 0, .bool false]], []⟩ 8 (by kernel_rfl) (by kernel_rfl) (by kernel_rfl) (by kernel_rfl)) ?_
  intro W base args ds gs before hval0 hW hcnd _
  have hval : ∀ (j : Nat) t v, Try.f3.params[j]? = some t → args[j]? = some v → Value.okWide Try.prog W .any base t v := hval0
  have hW' := hW
  obtain ⟨p, q, hA0, hV, rfl, hfz, hnd⟩ := hW
  have hA : DataW.TrodAll enc Try.prog W 0 (fun _ => true) true Try.f3.params.toList args.toList ds p := hA0
  rw [Try.params3] at hA hval
  obtain ⟨v0, v1, v2, v3, d0, d1, d2, d3, p0, p1, p2, p3, rfl, rfl, rfl, h0, h1, h2, h3⟩ := trodAll_four hA
  obtain ⟨rfl, rfl⟩ := trodVars_none hV
  obtain ⟨ob, zs, bc, rfl, hz, hzw, hbb, hob⟩ := open_nums (hval 1 23 v1 rfl rfl) h1
  obtain ⟨a, x, rfl, rfl, rfl, wa⟩ := open_val (hval 2 25 v2 rfl rfl) h2
  obtain ⟨b, y, rfl, rfl, rfl, wb⟩ := open_val (hval 3 25 v3 rfl rfl) h3
  have hC : Calls Try.prog 3 #[v0, .slice ob zs.length bc, .agg #[.int .i64 a, .bool x], .agg #[.int .i64 b, .bool y]] W fun e w' => e = .returned (.bool true) ∧ Below W.heap.size W w' := by
    rcases open_els (hval 0 22 v0 rfl rfl) h0 with rfl | ⟨la, l, lc, rfl, hlc, hlm, hll, hl⟩
    · exact adds_any [] (by simp) none 0 (by simp) (by simp) (by simp) (by simp) ob zs bc hz hzw hbb hob a b x y (wf_I64 wa) (wf_I64 wb)
    · exact adds_any l hl (some la) lc (fun a e => by cases e; exact hll) hlc hlm (by simp) ob zs bc hz hzw hbb hob a b x y (wf_I64 wa) (wf_I64 wb)
  clear hA0 hval0
  refine hC.mono fun e W' ⟨he, hb⟩ => ?_
  subst he
  exact ⟨_, rfl, law_post laidOut (by kernel_rfl) rfl rfl rfl hW' (fun _ _ _ => trodAll_mk1 (shut_bool Try.underlying4 _)) hb (ok_one (by kernel_rfl) rfl (okWide_bool_mk Try.underlying4 _))⟩
theorem numberAdds_holds : Rows.NumberAddsSaid :=
  OpenClaim.holds_of_wide 3 Try.f3 rfl rfl rfl rfl rfl rfl rfl ⟨rfl, rfl, rfl, rfl, rfl⟩ rfl rfl rfl rfl rfl (by kernel_rfl) Try.func3 (by kernel_rfl)
    (of_decide_eq_true (by kernel_rfl)) (by unfold Func.isWrapper; first | (rw [if_pos (by decide +kernel)]; kernel_rfl) | (rw [if_neg (by decide +kernel)]; exact ⟨rfl, rfl⟩))
    (fun os started H enc _ => numberAdds_lifted os started H enc)
#print axioms numberAdds_holds
end Go.Proofs.Ytfiinceogenlmaa
