/- Parts of the proof: RegY BtM. -/
import Derived.Test.YtangcgfchalnaaaYav
import Derived.Test.YtangcgfchalnaaaYap
import Derived.Test.YtangcgfchalnaaaYas
import Derived.Test.YtangcgfchalnaaaYau
/- A region walked along a tree of orders, as in RegF: a step may be a store. No program. -/
namespace Go.Proofs.Ytangcgfchalnaaa
open Go.RowKit
theorem stepRes_monoX {P : Program} {R R' : Value → World → Prop} {x : Result Next} (h : stepResX P R x) (hm : ∀ v w, R v w → R' v w) : stepResX P R' x := by
  cases x with
  | ok nx w' =>
    cases nx <;> simp only [stepResX] at h ⊢
    case value u => exact hm _ _ h
    case enter f args => exact h.mono fun e w'' ⟨v, he, hr⟩ => ⟨v, he, hm _ _ hr⟩
    case skip => exact hm _ _ h
  | halt x w' => simp only [stepResX] at h
section
variable {B : Nat} {md : Region.Mode} {ops : Array Oper} {P : Program}
def wpFX (P : Program) (ops : Array Oper) (E : (World → Prop) → (World → Prop) → Act → Prop) : Pl → (World → Prop) → (World → Prop) → Act → Prop
  | .nil, C, D, a => E C D a
  | .q i r, C, D, a => ∃ o, ops[i]? = some o ∧ ∃ v, YQ P ops o v C a ∧ wpFX P ops E r C D (a.put o.dst v)
  | .alt i r s, C, D, a => (∃ o, ops[i]? = some o ∧ Region.wanted o (yielded ops a.tmps) = true ∧ ∃ F D' : Value → World → Prop, (∀ v, Stab (F v)) ∧ (∀ v, Stab (D' v)) ∧ stepInX P C D o a F D' ∧ ∀ v, wpFX P ops E r (fun w => C w ∧ F v w) (D' v) (a.put o.dst v)) ∧ wpFX P ops E s C D a
  | .stop, _, _, _ => True
theorem wpG_of_wpFX {n g : Nat} {E : (World → Prop) → (World → Prop) → Act → Prop} (hsel : Region.noSelect ops = true) (hT : HeadOK md ops n) :
    ∀ (l : Pl) (t : Bool) (f : Nat) (C D : World → Prop) (listed : Array Bool) (a : Act), HeadInv md ops n listed → permF md ops n g l t f listed = true → wpFX P ops E l C D a →
      (t = true → wpGX B (fun _ => none) P md ops n (fun C D listed a => Region.seqB md ops g n listed = true ∧ E C D a) f C D listed a) ∧
      (t = false → ∀ i ∈ l.ids, i ∈ Region.ready md ops listed → ∃ f', f = f' + 1 ∧ i < n ∧ ∃ o, ops[i]? = some o ∧ gRestX P ops C D (fun C' D' a' => wpGX B (fun _ => none) P md ops n (fun C D listed a => Region.seqB md ops g n listed = true ∧ E C D a) f' C' D' (listed.setIfInBounds i true) a') a o)
  | .nil, t, f, C, D, listed, a, inv, hB, h => by
    simp only [permF, Bool.and_eq_true, beq_iff_eq] at hB
    obtain ⟨⟨rfl, rfl⟩, hs⟩ := hB
    exact ⟨fun _ => ⟨hs, h⟩, fun e => by cases e⟩
  | .q i r, t, f, C, D, listed, a, inv, hB, h => by
    simp only [permF, Bool.and_eq_true, decide_eq_true_eq, bne_iff_ne, ne_eq] at hB
    obtain ⟨⟨⟨⟨⟨rfl, hf⟩, hin⟩, hr⟩, hfr⟩, hB'⟩ := hB
    obtain ⟨f', rfl⟩ : ∃ f', f = f' + 1 := ⟨f - 1, by omega⟩
    rw [Nat.add_sub_cancel] at hB'
    refine ⟨fun _ => ?_, fun e => by cases e⟩
    have hr' : i ∈ Region.ready md ops listed := by simpa using hr
    have hsel' := Region.noSelect_spec hsel
    have hdone : ∀ C D listed a, (Region.seqB md ops g n listed = true ∧ E C D a) → ∀ j ∈ Region.ready md ops listed, n ≤ j := fun C D listed a hL => seqB_ready hL.1
    obtain ⟨o, ho, v, hy, hc⟩ := h
    exact wpG_firstX ho rfl hsel' hT hin hdone _ C D listed a inv (Region.free_spec ho hfr) hr' hy ((wpG_of_wpFX hsel hT r true f' _ _ _ _ (inv.set hr' hin) hB' hc).1 rfl)
  | .alt i r s, t, f, C, D, listed, a, inv, hB, h => by
    simp only [permF, Bool.and_eq_true, decide_eq_true_eq, bne_iff_ne, ne_eq, Bool.or_eq_true, Bool.not_eq_true'] at hB
    obtain ⟨⟨⟨⟨hf, hin⟩, hid⟩, hB1⟩, hB2⟩ := hB
    obtain ⟨f', rfl⟩ : ∃ f', f = f' + 1 := ⟨f - 1, by omega⟩
    rw [Nat.add_sub_cancel] at hB1
    obtain ⟨⟨o, ho, hw, F, D', hF, hD', hl, hc⟩, h2⟩ := h
    have one : i ∈ Region.ready md ops listed → i < n ∧ ∃ o, ops[i]? = some o ∧ gRestX P ops C D (fun C' D' a' => wpGX B (fun _ => none) P md ops n (fun C D listed a => Region.seqB md ops g n listed = true ∧ E C D a) f' C' D' (listed.setIfInBounds i true) a') a o :=
      fun hr => ⟨hin, o, ho, .inr ⟨hw, F, D', hF, hD', hl, fun v => (wpG_of_wpFX hsel hT r true f' _ _ _ _ (inv.set hr hin) hB1 (hc v)).1 rfl⟩⟩
    have rest := (wpG_of_wpFX hsel hT s false (f' + 1) C D listed a inv hB2 h2).2 rfl
    have all : ∀ j ∈ (Pl.alt i r s).ids, j ∈ Region.ready md ops listed → ∃ f'', f' + 1 = f'' + 1 ∧ j < n ∧ ∃ o, ops[j]? = some o ∧ gRestX P ops C D (fun C' D' a' => wpGX B (fun _ => none) P md ops n (fun C D listed a => Region.seqB md ops g n listed = true ∧ E C D a) f'' C' D' (listed.setIfInBounds j true) a') a o := by
      intro j hj hr
      rcases List.mem_cons.1 hj with rfl | hj
      · exact ⟨f', rfl, one hr⟩
      · exact rest j hj hr
    refine ⟨fun ht => ?_, fun _ => all⟩
    have hready : Region.ready md ops listed = i :: s.ids := hid.resolve_left (by rw [ht]; decide)
    refine ⟨by rw [hready]; simp, fun j hj => ?_⟩
    have hj' : j ∈ (Pl.alt i r s).ids := by rw [hready] at hj; exact hj
    obtain ⟨f'', e, hlt, o', ho', hg⟩ := all j hj' hj
    obtain rfl : f' = f'' := by omega
    exact ⟨hlt, o', ho', hg⟩
  | .stop, t, f, C, D, listed, a, inv, hB, h => by
    simp only [permF, Bool.not_eq_true'] at hB
    subst hB
    exact ⟨fun e => (by cases e), fun _ i hi => by simp [Pl.ids] at hi⟩
structure WpFX (P : Program) (l : List Oper) (E : (World → Prop) → (World → Prop) → Act → Prop) (r : Pl) (C D : World → Prop) (a : Act) : Prop where
  out : wpFX P l.toArray E r C D a
/-- ONE WALK SERVES EVERY ORDER. -/
theorem wp_region_forkX {id : Nat} {Q : Exit → Act → World → Prop} {a : Act} {w : World} {l : List Oper} (n : Nat) (pl : Pl) (C D : World → Prop) (hm : P.follows .mixedOrders = true) (hB : regF .any l.toArray n pl = true)
    (hSC : Stab C) (hSD : Stab D) (hC : C w.drew) (hD : D w.drew) (h : WpFX P l (fun C' D' a' => ∀ w', C' w' → D' w' → wpList P l.toArray Q (l.drop n) a' w') pl C D a) : (Code.region id l.toArray true).wp P Q a w := by
  simp only [regF, Bool.and_eq_true, decide_eq_true_eq] at hB
  obtain ⟨⟨⟨hsel, hh⟩, hn⟩, hp⟩ := hB
  have hdl : (l.drop n).length = l.toArray.size - n := by simp
  have inv0 : HeadInv .any l.toArray n (Array.replicate l.toArray.size false) :=
    ⟨by simp, fun j oj _ hl => (by rw [getD_replicate_false] at hl; cases hl), fun t _ ht => getD_in (by simpa using ht) (getD_replicate_false _ _)⟩
  have H := (wpG_of_wpFX (B := 0) (md := .any) (g := l.toArray.size - n) hsel (headB_spec hh) pl true n C D _ a inv0 hp h.out).1 rfl
  refine wp_region_any hm ?_
  have := wpG_soundX (Q := Q) (g := l.toArray.size - n) (fun C' D' listed a' hL w' hw' hd' => by
    have := wpAny_of_seq (md := .any) (Q' := Q) (l.drop n) n listed a' w' (fun j => by simp [List.getElem?_drop]) (by rw [hdl]; exact hL.1) (hL.2 w' hw' hd')
    rwa [hdl] at this) n C D _ a w.drew (fun _ _ => Nat.zero_le _) hSC hSD hC hD H
  rw [show n + (l.toArray.size - n) = l.toArray.size by omega] at this
  exact this
variable {ts : List Value} {df : List Deferred}
variable {E : (World → Prop) → (World → Prop) → Act → Prop} {r s : Pl} {C D : World → Prop} {a : Act} {i : Nat} {o : Oper} {l : List Oper}
theorem wf_nilX (h : E C D a) : WpFX P l E .nil C D a := ⟨h⟩
theorem wf_stopX : WpFX P l E .stop C D a := ⟨True.intro⟩
theorem wf_qX (ho : nthO l i = some o) (hw : wantB l ts o.guard = true) (h : ∃ v, (∀ w, C w → quietRes P w v ((execOp (Act.eval { tmps := ts.toArray, defers := df }) o).run P w)) ∧
    ∀ K : Act → Prop, Shut (∀ a, WpFX P l E r C D a → K a) → K (Act.put { tmps := ts.toArray, defers := df } o.dst v)) : WpFX P l E (.q i r) C D { tmps := ts.toArray, defers := df } := by
  obtain ⟨v, hq, h⟩ := h
  have hw : Region.wanted o (yielded l.toArray ts.toArray) = true := wantB_spec hw
  have hk := (h (fun a => WpFX P l E r C D a) (fun _ h => h)).out
  rw [← nthO_eq] at ho
  exact ⟨o, ho, v, .inl ⟨hw, hq⟩, hk⟩
theorem wf_skipX (ho : nthO l i = some o) (hw : wantN l ts o.guard = true)
    (h : ∀ K : Act → Prop, Shut (∀ a, WpFX P l E r C D a → K a) → K (Act.put { tmps := ts.toArray, defers := df } o.dst undef)) : WpFX P l E (.q i r) C D { tmps := ts.toArray, defers := df } := by
  have hw : Region.wanted o (yielded l.toArray ts.toArray) = false := wantN_spec hw
  have hk := (h (fun a => WpFX P l E r C D a) (fun _ h => h)).out
  rw [← nthO_eq] at ho
  exact ⟨o, ho, undef, .inr ⟨hw, rfl⟩, hk⟩
theorem wf_skipuX (ho : nthO l i = some o) (hw : wantU l ts o.guard = true)
    (h : ∀ K : Act → Prop, Shut (∀ a, WpFX P l E r C D a → K a) → K (Act.put { tmps := ts.toArray, defers := df } o.dst undef)) : WpFX P l E (.q i r) C D { tmps := ts.toArray, defers := df } := by
  have hw : Region.wanted o (yielded l.toArray ts.toArray) = false := wantU_spec hw
  have hk := (h (fun a => WpFX P l E r C D a) (fun _ h => h)).out
  rw [← nthO_eq] at ho
  exact ⟨o, ho, undef, .inr ⟨hw, rfl⟩, hk⟩
/-- A step, and the others that may come in its place. -/
theorem wf_stepX (F D' : Value → World → Prop) (hF : ∀ v, Stab (F v)) (hD : ∀ v, Stab (D' v)) (ho : nthO l i = some o) (hw : wantB l ts o.guard = true)
    (hl : ∀ w, C w → D w → stepResX P (stepRX C F D') ((execOp (Act.eval { tmps := ts.toArray, defers := df }) o).run P w))
    (h : ∀ K : (World → Prop) → (World → Prop) → Act → Prop, Shut (∀ C D a, WpFX P l E r C D a → K C D a) → ∀ v, K (fun w => C w ∧ F v w) (D' v) (Act.put { tmps := ts.toArray, defers := df } o.dst v))
    (h2 : WpFX P l E s C D { tmps := ts.toArray, defers := df }) : WpFX P l E (.alt i r s) C D { tmps := ts.toArray, defers := df } := by
  have hw : Region.wanted o (yielded l.toArray ts.toArray) = true := wantB_spec hw
  have hk := fun v => (h (fun C D a => WpFX P l E r C D a) (fun _ _ _ h => h) v).out
  rw [← nthO_eq] at ho
  exact ⟨⟨o, ho, hw, F, D', hF, hD, hl, hk⟩, h2.out⟩
end
section
variable {P : Program} {ops : Array Oper} {E : (World → Prop) → (World → Prop) → Act → Prop}
theorem wpF_voidX (hE : ∀ C D a, (∀ w, ¬ C w) → E C D a) : ∀ (r : Pl) (C D : World → Prop) (a : Act), (∀ w, ¬ C w) → r.okv ops = true → wpFX P ops E r C D a
  | .nil, C, D, a, hC, _ => hE C D a hC
  | .q i r, C, D, a, hC, h => by
    simp only [Pl.okv, Bool.and_eq_true, decide_eq_true_eq] at h
    refine ⟨ops[i]'h.1, Array.getElem?_eq_getElem h.1, undef, ?_, wpF_voidX hE r C D _ hC h.2⟩
    unfold YQ
    cases hw : Region.wanted (ops[i]'h.1) (yielded ops a.tmps) with
    | true => exact .inl ⟨rfl, fun w hw => (hC w hw).elim⟩
    | false => exact .inr ⟨rfl, rfl⟩
  | .alt i r s, C, D, a, hC, h => by
    simp only [Pl.okv, Bool.and_eq_true] at h
    obtain ⟨⟨h1, h2⟩, h3⟩ := h
    cases ho : ops[i]? with
    | none => rw [ho] at h1; cases h1
    | some o =>
      rw [ho] at h1
      have hg : o.guard = none := Option.isNone_iff_eq_none.1 h1
      refine ⟨⟨o, ho, by unfold Region.wanted; rw [hg], fun _ _ => True, fun _ _ => True, fun _ _ _ _ _ => True.intro, fun _ _ _ _ _ => True.intro, fun w hw _ => (hC w hw).elim, fun v => wpF_voidX hE r _ _ _ (fun w hw => hC w hw.1) h2⟩, wpF_voidX hE s C D a hC h3⟩
  | .stop, _, _, _, _, _ => True.intro
variable {ts : List Value} {df : List Deferred} {r s : Pl} {C D : World → Prop} {i : Nat} {o : Oper} {l : List Oper}
def stepEX (p : Value → Prop) (C : World → Prop) (F D : Value → World → Prop) (v : Value) (w : World) : Prop := p v ∧ C w ∧ F v w ∧ D v w
/-- A step; p holds of its value. -/
theorem wf_stepEX (p : Value → Prop) (F D' : Value → World → Prop) (hF : ∀ v, Stab (F v)) (hD : ∀ v, Stab (D' v)) (ho : nthO l i = some o) (hw : wantB l ts o.guard = true) (hr : r.okv l.toArray = true) (hE : ∀ C D a, (∀ w, ¬ C w) → E C D a)
    (hl : ∀ w, C w → D w → stepResX P (stepEX p C F D') ((execOp (Act.eval { tmps := ts.toArray, defers := df }) o).run P w))
    (h : ∀ K : (World → Prop) → (World → Prop) → Act → Prop, Shut (∀ C D a, WpFX P l E r C D a → K C D a) → ∀ v, p v → K (fun w => C w ∧ F v w) (D' v) (Act.put { tmps := ts.toArray, defers := df } o.dst v))
    (h2 : WpFX P l E s C D { tmps := ts.toArray, defers := df }) : WpFX P l E (.alt i r s) C D { tmps := ts.toArray, defers := df } := by
  refine wf_stepX (fun v w => p v ∧ F v w) D' (fun v w w' h hb => ⟨h.1, hF v w w' h.2 hb⟩) hD ho hw (fun w hc hd => stepRes_monoX (hl w hc hd) (fun v w ⟨h1, h2, h3, h4⟩ => ⟨h2, ⟨h1, h3⟩, h4⟩)) (fun K hK v => ?_) h2
  by_cases hv : p v
  · have e : (fun w => C w ∧ p v ∧ F v w) = (fun w => C w ∧ F v w) := funext fun w => propext ⟨fun h => ⟨h.1, h.2.2⟩, fun h => ⟨h.1, hv, h.2⟩⟩
    rw [e]
    exact h K hK v hv
  · exact hK _ _ _ ⟨wpF_voidX hE r _ _ _ (fun w hw => hv hw.2.1) hr⟩
end
end Go.Proofs.Ytangcgfchalnaaa

/- mark: between: samples in memory; a place goes on. -/
namespace Go.Proofs.Ytangcgfchalnaaa
open Go.RowKit
/-- Samples of a call's own, each with labels of its own. -/
structure OutM (w : World) (B : Nat) (v : Value) (X : List Sm) : Prop where
  row : w.ownsRow B 34 4 v X.length (rowF smc X)
  lab : ∀ x ∈ X, RowAt w (fun k => B ≤ k) 90 2 (lsV x.2.1) x.2.1.2.2.length (lbF x.2.1.2.2)
/-- What a sample says. -/
def smC (x : Sm) : SeC × Int × Int := ((x.1, x.2.1.2.2), x.2.2.1, x.2.2.2)
def smE (S : List SrP) (e : Ev) : SeC × Int × Int := ((S.map (·.1)).getD (e.2.1 - 1) (⟨#[]⟩, []), e.1, e.2.2)
/-- A slice's length. -/
def vLen : Value → Nat
  | .slice _ n _ => n
  | _ => 0
/-- A step that turns one block, or blocks of one type, keeps what lies in blocks of another type. -/
theorem OutM.keepT {w w' : World} {B : Nat} {v : Value} {X : List Sm} {T : Nat → Prop} (h : OutM w B v X) (ho : Only T w w') (hT : ∀ k, T k → ∃ cur e, w.heap[k]? = some (.cells cur e (0, 0)) ∧ e ≠ 34 ∧ e ≠ 90) : OutM w' B v X where
  row := or_only h.row ho (fun k hk ht => by
    obtain ⟨cur, e, h1, h2, _⟩ := hT k ht
    obtain ⟨cu, h3⟩ := (or_at h.row).ty k hk
    rw [h3] at h1; cases h1
    exact h2 rfl)
  lab := fun x hx => (h.lab x hx).keep' ho (fun k hk ht => by
    obtain ⟨cur, e, h1, _, h2⟩ := hT k ht
    obtain ⟨cu, h3⟩ := (h.lab x hx).ty k hk
    rw [h3] at h1; cases h1
    exact h2 rfl)
theorem OutM.below {w w' : World} {B : Nat} {v : Value} {X : List Sm} (h : OutM w B v X) (hb : Below w.heap.size w w') : OutM w' B v X :=
  h.keepT (T := fun _ => False) (Only.of_below hb) (fun _ h => h.elim)
theorem HpM.keepT {w w' : World} {B g : Nat} {v : Value} {A : List Plc} {T : Nat → Prop} (h : HpM w B g v A) (ho : Only T w w') (hT : ∀ k, T k → ∃ cur e, w.heap[k]? = some (.cells cur e (0, 0)) ∧ e ≠ 112 ∧ e ≠ 115 ∧ e ≠ 86) : HpM w' B g v A where
  gB := h.gB
  box := ho.get h.box (fun ht => by
    obtain ⟨cur, e, h1, h2, _⟩ := hT g ht
    rw [h.box] at h1; cases h1
    exact h2 rfl)
  row := or_only h.row ho (fun k hk ht => by
    obtain ⟨cur, e, h1, _, h2, _⟩ := hT k ht
    obtain ⟨cu, h3⟩ := (or_at h.row).ty k hk
    rw [h3] at h1; cases h1
    exact h2 rfl)
  rest := fun x hx => ⟨(h.rest x hx).1, (h.rest x hx).2.keep' ho (fun k hk ht => by
    obtain ⟨cur, e, h1, _, _, h2⟩ := hT k ht
    obtain ⟨cu, h3⟩ := (h.rest x hx).2.ty k hk
    rw [h3] at h1; cases h1
    exact h2 rfl)⟩
/-- A place's variable is stored: the others stay. -/
theorem HpM.keepH {w w' : World} {B g H : Nat} {v : Value} {A : List Plc} {cur : Array Value} (h : HpM w B g v A) (hH : w.heap[H]? = some (.cells cur 115 (0, 0))) (hv : v.ownBlock ≠ some H) (ho : Only (fun k => k = H) w w') : HpM w' B g v A where
  gB := h.gB
  box := ho.get h.box (fun e => by
    have e : g = H := e
    have := h.box
    rw [e, hH] at this; cases this)
  row := or_only h.row ho (fun k hk e => hv (by rw [← show k = H from e]; exact hk))
  rest := fun x hx => ⟨(h.rest x hx).1, (h.rest x hx).2.keep' ho (fun k hk e => by
    obtain ⟨cu, h3⟩ := (h.rest x hx).2.ty k hk
    rw [show k = H from e, hH] at h3; cases h3)⟩
/-- The state of the second loop. -/
structure Bt2 (w : World) (S : List SrP) (M : List Ev) (j : Nat) (W : World) (v : Value) (A : List Plc) (ov : Value) (X : List Sm) : Prop where
  hp : HpM W w.heap.size w.heap.size v A
  heap : HeapF ltP plD A 0 A.length
  ev : (M.drop j).Perm (plE A)
  rise : ∀ y ∈ A, Rise y.2.2
  out : OutM W w.heap.size ov X
  xs : X.map smC = (M.take j).map (smE S)
  jl : X.length = j
  jm : j ≤ M.length
  len : A.length ≤ 1024
  below : Below w.heap.size w W
theorem smc_one : ∀ (L : List Sm), ∀ u ∈ rowF smc L, u.oneCell' = true := rowF_one (fun x u hu => by
  simp only [List.mem_cons, List.not_mem_nil, or_false] at hu
  rcases hu with rfl | rfl | rfl | rfl <;> rfl)
theorem infoSm : (Try.prog.info? 34).map (fun i => (i.zero, i.size, i.bytes)) = some (some (.agg #[.string ⟨#[]⟩, .slice none 0 0, .int .i64 0, .int .i64 0]), 4, 56) := by kernel_rfl
/-- The blocks that a heap's step may turn hold places. -/
theorem HpM.turns {w : World} {B g : Nat} {v : Value} {A : List Plc} (h : HpM w B g v A) : ∀ k, (k = g ∨ v.ownBlock = some k) → ∃ cur e, w.heap[k]? = some (.cells cur e (0, 0)) ∧ e ≠ 34 ∧ e ≠ 90 := by
  rintro k (e | e)
  · exact ⟨_, _, by rw [e]; exact h.box, by decide, by decide⟩
  · obtain ⟨cu, h3⟩ := (or_at h.row).ty k e
    exact ⟨_, _, h3, by decide, by decide⟩
theorem HpM.turnsB {w : World} {B g : Nat} {v : Value} {A : List Plc} (h : HpM w B g v A) : ∀ k, (k = g ∨ v.ownBlock = some k) → B ≤ k := by
  rintro k (e | e)
  · rw [e]; exact h.gB
  · exact (World.ownsRow.lt h.row k e).1
/-- A place after its first point. -/
theorem place_next {w : World} {B : Nat} {sl : Value} {q : Pt} {P : List Pt} (h : RowAt w (fun k => B ≤ k) 86 3 sl (q :: P).length (pcs (q :: P))) : ∃ g o c, sl = .slice (some ⟨g, o, none⟩) (P.length + 1) c ∧ P.length + 1 ≤ c ∧ w.cell? ⟨g, o, none⟩ = some (.int .i64 q.1) ∧ w.cell? ⟨g, o + 1, none⟩ = some (.int .i64 q.2) ∧
    RowAt w (fun k => B ≤ k) 86 3 (.slice (if c = 1 then some ⟨g, o, none⟩ else some ⟨g, o + 3, none⟩) P.length (c - 1)) P.length (pcs P) := by
  rcases h.2 with ⟨_, h0⟩ | ⟨g, o, c, cur, h1, h2, h3, h4, h5, h6, h7⟩
  · simp at h0
  · have hl : (q :: P).length = P.length + 1 := rfl
    rw [hl] at h1 h4 h7
    refine ⟨g, o, c, h1, h4, ?_, ?_, ?_⟩
    · have := row_cells (size := 3) h3 h7 h4 0 (.int .i64 q.1) rfl
      have hadd : (⟨g, o, none⟩ : Addr).add 0 = ⟨g, o, none⟩ := by unfold Addr.add; split <;> simp_all
      rwa [hadd] at this
    · have := row_cells (size := 3) h3 h7 h4 1 (.int .i64 q.2) rfl
      have hadd : (⟨g, o, none⟩ : Addr).add 1 = ⟨g, o + 1, none⟩ := by unfold Addr.add; split <;> simp_all
      rwa [hadd] at this
    · subst h1
      have ht := h.tail_
      have e : (pcs (q :: P)).drop 3 = pcs P := rfl
      rw [e] at ht
      have hadd : (⟨g, o, none⟩ : Addr).add 3 = ⟨g, o + 3, none⟩ := by unfold Addr.add; split <;> simp_all
      by_cases hc : c = 1
      · rw [if_pos hc] at ht ⊢; exact ht
      · rw [if_neg hc] at ht ⊢
        simp only [Option.map_some, hadd] at ht
        exact ht
/-- One more sample, and a place's variable stored. -/
theorem bt_keep {w w5 w8 w9 : World} {g J Hx ln c3 n nx : Nat} {v2 ov ov' sl u : Value} {A2 : List Plc} {X : List Sm} {xs : List Value} {A3 : Option Addr} {L : List Lb} {m : ByteArray} {tq nq : Int} {cur : Array Value}
    (hM5 : HpM w5 w.heap.size g v2 A2) (hO5 : OutM w5 w.heap.size ov X) (hJ : X.length = J) (hnx : RowAt w5 (fun k => w.heap.size ≤ k) 86 3 sl nx xs) (hlab : RowAt w5 (fun k => w.heap.size ≤ k) 90 2 (.slice A3 ln c3) ln (lbF L)) (hln : L.length = ln) (hb : Below w5.heap.size w5 w8)
    (hr9 : w9.ownsRow w.heap.size 34 4 ov' (J + 1) (rowF smc X ++ [.string m, .slice A3 ln c3, .int .i64 tq, .int .i64 nq])) (ho9 : Only (fun k => ov.ownBlock = some k) w8 w9) (hx : w9.heap[Hx]? = some (.cells cur 115 (0, 0))) (hv : v2.ownBlock ≠ some Hx) (hB : w.heap.size ≤ Hx) (hbw : Below w.heap.size w w5) :
    HpM (w9.setCell ⟨Hx, n, none⟩ u) w.heap.size g v2 A2 ∧ OutM (w9.setCell ⟨Hx, n, none⟩ u) w.heap.size ov' (X ++ [(m, (A3, c3, L), tq, nq)]) ∧ RowAt (w9.setCell ⟨Hx, n, none⟩ u) (fun k => w.heap.size ≤ k) 86 3 sl nx xs ∧ Below w.heap.size w (w9.setCell ⟨Hx, n, none⟩ u) := by
  have hsm : ∀ k, ov.ownBlock = some k → ∃ cu, w8.heap[k]? = some (.cells cu 34 (0, 0)) := fun k hk => by
    obtain ⟨cu, h⟩ := (or_at hO5.row).ty k hk
    exact ⟨cu, keepB h hb⟩
  have hOs := Only.set w9 Hx n u
  have hM9 : HpM w9 w.heap.size g v2 A2 := (hM5.below hb).keepT ho9 (fun k e => by
    obtain ⟨cu, h⟩ := hsm k e
    exact ⟨cu, _, h, by decide, by decide, by decide⟩)
  -- rows of other types stay
  have hrow : ∀ {e : TypeId} {size l : Nat} {y : Value} {ys : List Value}, e ≠ 34 → e ≠ 115 → RowAt w5 (fun k => w.heap.size ≤ k) e size y l ys → RowAt (w9.setCell ⟨Hx, n, none⟩ u) (fun k => w.heap.size ≤ k) e size y l ys := by
    intro e size l y ys he1 he2 hy
    have h8 := hy.below hb
    have h9 := h8.keep' ho9 (fun k hk e' => by
      obtain ⟨cu, h⟩ := hsm k e'
      obtain ⟨cu2, h2⟩ := h8.ty k hk
      rw [h2] at h; cases h
      exact he1 rfl)
    exact h9.keep' hOs (fun k hk e' => by
      obtain ⟨cu2, h2⟩ := h9.ty k hk
      rw [show k = Hx from e', hx] at h2; cases h2
      exact he2 rfl)
  refine ⟨hM9.keepH hx hv hOs, ⟨?_, fun y hy => ?_⟩, hrow (by decide) (by decide) hnx, ?_⟩
  · have h := or_only hr9 hOs (fun k hk e' => by
      obtain ⟨cu2, h2⟩ := (or_at hr9).ty k hk
      rw [show k = Hx from e', hx] at h2; cases h2)
    rw [List.length_append, List.length_singleton, hJ, rowF_append]
    have e : rowF smc [(m, (A3, c3, L), tq, nq)] = [.string m, .slice A3 ln c3, .int .i64 tq, .int .i64 nq] := by simp [rowF, smc, lsV, hln]
    rw [e]; exact h
  · rcases List.mem_append.1 hy with hy | hy
    · exact hrow (by decide) (by decide) (hO5.lab y hy)
    · obtain rfl := List.mem_singleton.1 hy
      have := hrow (by decide) (by decide) hlab
      simp only [lsV, hln]
      exact this
  · have hs8 := hb.size
    have hs := hbw.size
    exact hbw.trans (((Only.of_below hb).then ((ho9.mono (T := fun k => w.heap.size ≤ k) (fun k _ e => (World.ownsRow.lt hO5.row k e).1)).trans (hOs.mono (fun k _ e => by rw [show k = Hx from e]; exact hB))) (fun k _ e => e)).below (fun k e => e) hs)
/-- The next state. -/
theorem Bt2.next {w wr W : World} {S : List SrP} {M : List Ev} {J x1 : Nat} {pv ov v' ov' sl0 : Value} {PA A2 A' : List Plc} {X : List Sm} {sm : Sm} {q : Pt} {P : List Pt} (hT : Bt2 w S M J wr pv PA ov X) (hMs : SrtE M) (h0 : 0 < PA.length) (hx : PA.getD 0 plD = (x1, sl0, q :: P)) (hA : (PA.getD 0 plD :: A2).Perm PA) (hsm : smC sm = smE S (q.1, x1, q.2))
    (hM : HpM W w.heap.size w.heap.size v' A') (hH : HeapF ltP plD A' 0 A'.length) (hA' : (A' = A2 ∧ P = []) ∨ ∃ sl, A'.Perm (A2 ++ [(x1, sl, P)])) (hO : OutM W w.heap.size ov' (X ++ [sm])) (hb : Below w.heap.size w W) : Bt2 w S M (J + 1) W v' A' ov' (X ++ [sm]) := by
  have hxm : (x1, sl0, q :: P) ∈ PA := by rw [← hx, List.getD_eq_getElem?_getD, List.getElem?_eq_getElem h0]; exact List.getElem_mem _
  have hmin : ∀ y ∈ PA, ltP y (x1, sl0, q :: P) = false := fun y hy => by
    obtain ⟨a, ha, rfl⟩ := List.mem_iff_getElem.1 hy
    have := hT.heap.min ltP_tot a ha
    rw [hx, List.getD_eq_getElem?_getD, List.getElem?_eq_getElem ha] at this
    exact this
  rw [hx] at hA
  obtain ⟨R, hR, hRp⟩ := heap_first (hMs.sublist (List.drop_sublist _ _)) hT.ev hA hmin hT.rise rfl
  have hJl : J < M.length := by
    rcases Nat.lt_or_ge J M.length with h | h
    · exact h
    · rw [List.drop_eq_nil_of_le h] at hR; cases hR
  have hd := List.drop_eq_getElem_cons hJl
  rw [hR] at hd
  obtain ⟨he, hRe⟩ := List.cons.inj hd
  have hl := hA.length_eq
  rw [List.length_cons] at hl
  have hlen := hT.len
  have hev : (plE A').Perm (evs x1 P ++ plE A2) := by
    rcases hA' with ⟨rfl, rfl⟩ | ⟨sl, hp⟩
    · exact List.Perm.refl _
    · refine (plE_perm hp).trans ?_
      unfold plE
      rw [List.flatMap_append]
      simp only [List.flatMap_cons, List.flatMap_nil, List.append_nil]
      exact List.perm_append_comm
  have hrA : ∀ y ∈ A', Rise y.2.2 := by
    have h2 : ∀ y ∈ A2, Rise y.2.2 := fun y hy => hT.rise y (hA.mem_iff.1 (List.mem_cons_of_mem _ hy))
    rcases hA' with ⟨rfl, rfl⟩ | ⟨sl, hp⟩
    · exact h2
    · intro y hy
      rcases List.mem_append.1 (hp.mem_iff.1 hy) with hy | hy
      · exact h2 y hy
      · obtain rfl := List.mem_singleton.1 hy
        have := hT.rise _ hxm
        exact (List.pairwise_cons.1 this).2
  have hlA : A'.length ≤ 1024 := by
    rcases hA' with ⟨rfl, rfl⟩ | ⟨sl, hp⟩
    · omega
    · rw [hp.length_eq, List.length_append, List.length_singleton]; omega
  have hxs : (X ++ [sm]).map smC = (M.take (J + 1)).map (smE S) := by
    rw [List.map_append, hT.xs, ← List.take_append_getElem hJl, List.map_append, ← he, List.map_singleton, List.map_singleton, hsm]
  have hev2 : (M.drop (J + 1)).Perm (plE A') := by
    rw [← hRe]
    exact hRp.trans hev.symm
  exact ⟨hM, hH, hev2, hrA, hO, hxs, by rw [List.length_append, List.length_singleton, hT.jl], hJl, hlA, hb⟩
end Go.Proofs.Ytangcgfchalnaaa
