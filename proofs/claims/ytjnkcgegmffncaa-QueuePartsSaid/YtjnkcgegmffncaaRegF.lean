/- A region whose order is open, walked along a tree of orders: quiet operations float; where more than one step may come next, each of them is walked. No program. -/
import Derived.Test.YtjnkcgegmffncaaRegU
namespace Go.Proofs.Ytjnkcgegmffncaa
open Go.RowKit
/-- A plan of the walk: the end; a quiet operation; a step, and the other ones that may come in its place. -/
inductive Pl where
  | nil : Pl
  | q (i : Nat) (r : Pl) : Pl
  | alt (i : Nat) (r s : Pl) : Pl
  | stop : Pl
def Pl.ids : Pl → List Nat
  | .alt i _ s => i :: s.ids
  | _ => []
section
variable {md : Region.Mode} {ops : Array Oper} {P : Program}
def permF (md : Region.Mode) (ops : Array Oper) (n g : Nat) : Pl → Bool → Nat → Array Bool → Bool
  | .nil, t, f, listed => t && (f == 0) && Region.seqB md ops g n listed
  | .q i r, t, f, listed => t && (f != 0) && decide (i < n) && (Region.ready md ops listed).contains i && Region.free md ops listed i && permF md ops n g r true (f - 1) (listed.setIfInBounds i true)
  | .alt i r s, t, f, listed => (f != 0) && decide (i < n) && (!t || decide (Region.ready md ops listed = i :: s.ids)) && permF md ops n g r true (f - 1) (listed.setIfInBounds i true) && permF md ops n g s false f listed
  | .stop, t, _, _ => !t
def wpF (P : Program) (ops : Array Oper) (E : (World → Prop) → (World → Prop) → Act → Prop) : Pl → (World → Prop) → (World → Prop) → Act → Prop
  | .nil, C, D, a => E C D a
  | .q i r, C, D, a => ∃ o, ops[i]? = some o ∧ ∃ v, YQ P ops o v C a ∧ wpF P ops E r C D (a.put o.dst v)
  | .alt i r s, C, D, a => (∃ o, ops[i]? = some o ∧ Region.wanted o (yielded ops a.tmps) = true ∧ ∃ F D' : Value → World → Prop, (∀ v, Stab (F v)) ∧ (∀ v, Stab (D' v)) ∧ stepIn P C D o a F D' ∧ ∀ v, wpF P ops E r (fun w => C w ∧ F v w) (D' v) (a.put o.dst v)) ∧ wpF P ops E s C D a
  | .stop, _, _, _ => True
theorem wpG_of_wpF {n g : Nat} {E : (World → Prop) → (World → Prop) → Act → Prop} (hsel : Region.noSelect ops = true) (hT : HeadOK md ops n) :
    ∀ (l : Pl) (t : Bool) (f : Nat) (C D : World → Prop) (listed : Array Bool) (a : Act), HeadInv md ops n listed → permF md ops n g l t f listed = true → wpF P ops E l C D a →
      (t = true → wpG (fun _ => none) P md ops n (fun C D listed a => Region.seqB md ops g n listed = true ∧ E C D a) f C D listed a) ∧
      (t = false → ∀ i ∈ l.ids, i ∈ Region.ready md ops listed → ∃ f', f = f' + 1 ∧ i < n ∧ ∃ o, ops[i]? = some o ∧ gRest P ops C D (fun C' D' a' => wpG (fun _ => none) P md ops n (fun C D listed a => Region.seqB md ops g n listed = true ∧ E C D a) f' C' D' (listed.setIfInBounds i true) a') a o)
  | .nil, t, f, C, D, listed, a, inv, hB, h => by
    simp only [permF, Bool.and_eq_true, beq_iff_eq] at hB
    obtain ⟨⟨rfl, rfl⟩, hs⟩ := hB
    exact ⟨fun _ => ⟨hs, h⟩, fun e => by cases e⟩
  | .q i r, t, f, C, D, listed, a, inv, hB, h => by
    simp only [permF, Bool.and_eq_true, decide_eq_true_eq, bne_iff_ne, ne_eq] at hB
    obtain ⟨⟨⟨⟨⟨rfl, hf⟩, hin⟩, hr⟩, hfr⟩, hB'⟩ := hB
    obtain ⟨f', rfl⟩ : ∃ f', f = f' + 1 := ⟨f - 1, by omega⟩
    rw [Nat.add_sub_cancel] at hB'
    refine ⟨fun _ => ?_, fun e => by cases e⟩
    have hr' : i ∈ Region.ready md ops listed := by simpa using hr
    have hsel' := Region.noSelect_spec hsel
    have hdone : ∀ C D listed a, (Region.seqB md ops g n listed = true ∧ E C D a) → ∀ j ∈ Region.ready md ops listed, n ≤ j := fun C D listed a hL => seqB_ready hL.1
    obtain ⟨o, ho, v, hy, hc⟩ := h
    exact wpG_first ho rfl hsel' hT hin hdone _ C D listed a inv (Region.free_spec ho hfr) hr' hy ((wpG_of_wpF hsel hT r true f' _ _ _ _ (inv.set hr' hin) hB' hc).1 rfl)
  | .alt i r s, t, f, C, D, listed, a, inv, hB, h => by
    simp only [permF, Bool.and_eq_true, decide_eq_true_eq, bne_iff_ne, ne_eq, Bool.or_eq_true, Bool.not_eq_true'] at hB
    obtain ⟨⟨⟨⟨hf, hin⟩, hid⟩, hB1⟩, hB2⟩ := hB
    obtain ⟨f', rfl⟩ : ∃ f', f = f' + 1 := ⟨f - 1, by omega⟩
    rw [Nat.add_sub_cancel] at hB1
    obtain ⟨⟨o, ho, hw, F, D', hF, hD', hl, hc⟩, h2⟩ := h
    have one : i ∈ Region.ready md ops listed → i < n ∧ ∃ o, ops[i]? = some o ∧ gRest P ops C D (fun C' D' a' => wpG (fun _ => none) P md ops n (fun C D listed a => Region.seqB md ops g n listed = true ∧ E C D a) f' C' D' (listed.setIfInBounds i true) a') a o :=
      fun hr => ⟨hin, o, ho, .inr ⟨hw, F, D', hF, hD', hl, fun v => (wpG_of_wpF hsel hT r true f' _ _ _ _ (inv.set hr hin) hB1 (hc v)).1 rfl⟩⟩
    have rest := (wpG_of_wpF hsel hT s false (f' + 1) C D listed a inv hB2 h2).2 rfl
    have all : ∀ j ∈ (Pl.alt i r s).ids, j ∈ Region.ready md ops listed → ∃ f'', f' + 1 = f'' + 1 ∧ j < n ∧ ∃ o, ops[j]? = some o ∧ gRest P ops C D (fun C' D' a' => wpG (fun _ => none) P md ops n (fun C D listed a => Region.seqB md ops g n listed = true ∧ E C D a) f'' C' D' (listed.setIfInBounds j true) a') a o := by
      intro j hj hr
      rcases List.mem_cons.1 hj with rfl | hj
      · exact ⟨f', rfl, one hr⟩
      · exact rest j hj hr
    refine ⟨fun ht => ?_, fun _ => all⟩
    have hready : Region.ready md ops listed = i :: s.ids := hid.resolve_left (by rw [ht]; decide)
    refine ⟨by rw [hready]; simp, fun j hj => ?_⟩
    have hj' : j ∈ (Pl.alt i r s).ids := by rw [hready] at hj; exact hj
    obtain ⟨f'', e, hlt, o', ho', hg⟩ := all j hj' hj
    obtain rfl : f' = f'' := by omega
    exact ⟨hlt, o', ho', hg⟩
  | .stop, t, f, C, D, listed, a, inv, hB, h => by
    simp only [permF, Bool.not_eq_true'] at hB
    subst hB
    exact ⟨fun e => (by cases e), fun _ i hi => by simp [Pl.ids] at hi⟩
def regF (md : Region.Mode) (ops : Array Oper) (n : Nat) (l : Pl) : Bool :=
  Region.noSelect ops && headB md ops n && decide (n ≤ ops.size) && permF md ops n (ops.size - n) l true n (Array.replicate ops.size false)
structure WpF (P : Program) (l : List Oper) (E : (World → Prop) → (World → Prop) → Act → Prop) (r : Pl) (C D : World → Prop) (a : Act) : Prop where
  out : wpF P l.toArray E r C D a
/-- ONE WALK SERVES EVERY ORDER. -/
theorem wp_region_fork {id : Nat} {Q : Exit → Act → World → Prop} {a : Act} {w : World} {l : List Oper} (n : Nat) (pl : Pl) (C D : World → Prop) (hm : P.follows .mixedOrders = true) (hB : regF .any l.toArray n pl = true)
    (hSC : Stab C) (hSD : Stab D) (hC : C w.drew) (hD : D w.drew) (h : WpF P l (fun C' D' a' => ∀ w', C' w' → D' w' → wpList P l.toArray Q (l.drop n) a' w') pl C D a) : (Code.region id l.toArray true).wp P Q a w := by
  simp only [regF, Bool.and_eq_true, decide_eq_true_eq] at hB
  obtain ⟨⟨⟨hsel, hh⟩, hn⟩, hp⟩ := hB
  have hdl : (l.drop n).length = l.toArray.size - n := by simp
  have inv0 : HeadInv .any l.toArray n (Array.replicate l.toArray.size false) :=
    ⟨by simp, fun j oj _ hl => (by rw [getD_replicate_false] at hl; cases hl), fun t _ ht => getD_in (by simpa using ht) (getD_replicate_false _ _)⟩
  have H := (wpG_of_wpF (md := .any) (g := l.toArray.size - n) hsel (headB_spec hh) pl true n C D _ a inv0 hp h.out).1 rfl
  refine wp_region_any hm ?_
  have := wpG_sound (Q := Q) (g := l.toArray.size - n) (fun C' D' listed a' hL w' hw' hd' => by
    have := wpAny_of_seq (md := .any) (Q' := Q) (l.drop n) n listed a' w' (fun j => by simp [List.getElem?_drop]) (by rw [hdl]; exact hL.1) (hL.2 w' hw' hd')
    rwa [hdl] at this) n C D _ a w.drew hSC hSD hC hD H
  rw [show n + (l.toArray.size - n) = l.toArray.size by omega] at this
  exact this
variable {ts : List Value} {df : List Deferred}
variable {E : (World → Prop) → (World → Prop) → Act → Prop} {r s : Pl} {C D : World → Prop} {a : Act} {i : Nat} {o : Oper} {l : List Oper}
theorem wf_nil (h : E C D a) : WpF P l E .nil C D a := ⟨h⟩
theorem wf_stop : WpF P l E .stop C D a := ⟨True.intro⟩
theorem wf_q (ho : nthO l i = some o) (hw : wantB l ts o.guard = true) (h : ∃ v, (∀ w, C w → quietRes P w v ((execOp (Act.eval { tmps := ts.toArray, defers := df }) o).run P w)) ∧
    ∀ K : Act → Prop, Shut (∀ a, WpF P l E r C D a → K a) → K (Act.put { tmps := ts.toArray, defers := df } o.dst v)) : WpF P l E (.q i r) C D { tmps := ts.toArray, defers := df } := by
  obtain ⟨v, hq, h⟩ := h
  have hw : Region.wanted o (yielded l.toArray ts.toArray) = true := wantB_spec hw
  have hk := (h (fun a => WpF P l E r C D a) (fun _ h => h)).out
  rw [← nthO_eq] at ho
  exact ⟨o, ho, v, .inl ⟨hw, hq⟩, hk⟩
theorem wf_skip (ho : nthO l i = some o) (hw : wantN l ts o.guard = true)
    (h : ∀ K : Act → Prop, Shut (∀ a, WpF P l E r C D a → K a) → K (Act.put { tmps := ts.toArray, defers := df } o.dst undef)) : WpF P l E (.q i r) C D { tmps := ts.toArray, defers := df } := by
  have hw : Region.wanted o (yielded l.toArray ts.toArray) = false := wantN_spec hw
  have hk := (h (fun a => WpF P l E r C D a) (fun _ h => h)).out
  rw [← nthO_eq] at ho
  exact ⟨o, ho, undef, .inr ⟨hw, rfl⟩, hk⟩
theorem wf_skipu (ho : nthO l i = some o) (hw : wantU l ts o.guard = true)
    (h : ∀ K : Act → Prop, Shut (∀ a, WpF P l E r C D a → K a) → K (Act.put { tmps := ts.toArray, defers := df } o.dst undef)) : WpF P l E (.q i r) C D { tmps := ts.toArray, defers := df } := by
  have hw : Region.wanted o (yielded l.toArray ts.toArray) = false := wantU_spec hw
  have hk := (h (fun a => WpF P l E r C D a) (fun _ h => h)).out
  rw [← nthO_eq] at ho
  exact ⟨o, ho, undef, .inr ⟨hw, rfl⟩, hk⟩
/-- A step, and the others that may come in its place. -/
theorem wf_step (F D' : Value → World → Prop) (hF : ∀ v, Stab (F v)) (hD : ∀ v, Stab (D' v)) (ho : nthO l i = some o) (hw : wantB l ts o.guard = true)
    (hl : ∀ w, C w → D w → stepRes P (stepR C F D') ((execOp (Act.eval { tmps := ts.toArray, defers := df }) o).run P w))
    (h : ∀ K : (World → Prop) → (World → Prop) → Act → Prop, Shut (∀ C D a, WpF P l E r C D a → K C D a) → ∀ v, K (fun w => C w ∧ F v w) (D' v) (Act.put { tmps := ts.toArray, defers := df } o.dst v))
    (h2 : WpF P l E s C D { tmps := ts.toArray, defers := df }) : WpF P l E (.alt i r s) C D { tmps := ts.toArray, defers := df } := by
  have hw : Region.wanted o (yielded l.toArray ts.toArray) = true := wantB_spec hw
  have hk := fun v => (h (fun C D a => WpF P l E r C D a) (fun _ _ _ h => h) v).out
  rw [← nthO_eq] at ho
  exact ⟨⟨o, ho, hw, F, D', hF, hD, hl, hk⟩, h2.out⟩
end
end Go.Proofs.Ytjnkcgegmffncaa
