/- A bag's Counts. -/
import Derived.Test.YtjcbikkihijkiaaBgO
namespace Go.Proofs.Ytjcbikkihijkiaa
open Go.RowKit Go.Shelf
theorem counts_fn (q : Option Nat) (w : World) : Calls Try.prog 32 #[pv q] w fun e w' => e = .returned (.func (.func 56) #[] #[.pointer (some ⟨w.heap.size, 0, none⟩)]) ∧ w' = w.alloc (.cells #[pv q] 24) := by
  cases q <;> unfold pv pq
  all_goals
    go_enter Try.func32, Try.ntmps32
    go_wp2_with fail
    go_ret
    exact ⟨rfl, rfl⟩
abbrev OftRow (w0 w' : World) (v : Value) (L : List (Int × Nat)) : Prop := w'.ownsRow w0.heap.size 34 2 v L.length (oftF L)
theorem collect_any (lb : Array Value) (L : List (Int × Nat)) (hL : L.length ≤ 1099511627776) (w : World)
    (hseq : SeqT 56 56 lb oftE L w) :
    Calls Try.prog 31 #[.func (.func 56) #[] lb] w fun e W' => ∃ v, e = .returned v ∧ OftRow w W' v L ∧ Below w.heap.size w W' := by
  have C := Lib.hid (appendSeq_any 56 lb L hL w (enters_of Try.func56 (by kernel_rfl) rfl) hseq)
  clear hseq
  go_enter Try.func31, Try.ntmps31
  go_wp2_with fail
  refine C.out.mono ?_
  rintro e w1 ⟨v, rfl, hr, hb⟩
  obtain ⟨a, cap, rfl⟩ := ownsRow_form hr
  have HR := Lib.hid hr
  clear hr C
  go_wp2_with fail
  go_ret
  exact ⟨_, rfl, HR.out, hb⟩
theorem bcounts_seq (q : Option Nat) (L : List (Int × Nat)) (hL : L.length ≤ 1099511627776) (w : World)
    (hseq : SeqT 56 56 #[.pointer (some ⟨w.heap.size, 0, none⟩)] oftE L (w.alloc (.cells #[pv q] 24))) :
    Calls Try.prog 12 #[pv q] w fun e W' => ∃ v, e = .returned v ∧ OftRow w W' v L ∧ Below w.heap.size w W' := by
  have C := Lib.hid (collect_any _ L hL _ hseq)
  have HB := Lib.hid (below_alloc (Below.refl w.heap.size w) (.cells #[pv q] 24))
  have HS : Hid ((w.alloc (.cells #[pv q] 24)).heap.size = w.heap.size + 1) := Lib.hid (alloc_size _ _)
  have CF := Lib.hid (counts_fn q w)
  obtain ⟨v, hv⟩ : ∃ v, pv q = v := ⟨_, rfl⟩
  rw [hv] at C CF HB HS ⊢
  clear hseq hv
  go_enter Try.func12, Try.ntmps12
  go_wp2_with fail
  refine CF.out.mono ?_
  rintro e w1 ⟨rfl, rfl⟩
  go_wp2_with fail
  refine C.out.mono ?_
  rintro e w1 ⟨v, rfl, hr, hb⟩
  obtain ⟨a, cap, rfl⟩ := ownsRow_form hr
  have HR := Lib.hid hr
  have HB1 := Lib.hid hb
  clear hr hb C CF
  go_wp2_with fail
  go_ret
  exact ⟨_, rfl, ⟨HR.out.1, HR.out.2.imp id (by rintro ⟨g, c, cu, h1, h2, h3⟩; exact ⟨g, c, cu, h1, by have := HS.out; omega, h3⟩)⟩, HB.out.trans (HB1.out.mono HB.out.size)⟩
section
variable {w : World} {F : Nat → Prop} {b o : Nat} {T : Tr}
theorem bcounts_any (h : BagT w F b T o) (hL : T.lst.length ≤ 1099511627776) : Calls Try.prog 12 #[.pointer (some ⟨b, 0, none⟩)] w fun e W' => ∃ v, e = .returned v ∧ OftRow w W' v T.lst ∧ Below w.heap.size w W' :=
  bcounts_seq (some b) T.lst hL w (counts1_seq (h.below (below_alloc (Below.refl _ _) _)) (newB w _) hL)
end
set_option maxRecDepth 100000 in
set_option maxHeartbeats 4000000 in
theorem counts1_nil {w : World} {Bb : Nat} (hbox : w.heap[Bb]? = some (.cells #[.pointer none] 24 (0, 0))) : SeqT 56 56 #[.pointer (some ⟨Bb, 0, none⟩)] oftE [] w := by
  intro l J W hW hJ hY hJ0
  have hbx := keepB hbox hW
  have cb := cellAt (o := 0) (v := .pointer none) hbx rfl
  have CR := Lib.hid (right_nil W)
  clear hbox hbx hY
  refine callsIn_of_wp Try.func56 rfl trivial ?_ rfl
  simp only [Try.ntmps56, List.size_toArray, List.length_cons, List.length_nil, Nat.reduceAdd, Nat.reduceSub, Array.replicate_succ, Array.replicate_zero, List.push_toArray, List.append_toArray, List.nil_append, List.cons_append]
  gi_wp2_with (refine ⟨trivial, ?_⟩; refine (callsIn_wide.2 CR.out).mono ?_; rintro e w1 ⟨rfl, rfl⟩)
  refine bodyPost_ret (results_none rfl _ _ _) rfl ?_
  exact ⟨⟨_, rfl⟩, hJ0⟩
theorem bcounts_nil (w : World) : Calls Try.prog 12 #[.pointer none] w fun e W' => ∃ v, e = .returned v ∧ OftRow w W' v [] ∧ Below w.heap.size w W' :=
  bcounts_seq none [] (by simp) w (counts1_nil (newB w _))
end Go.Proofs.Ytjcbikkihijkiaa
