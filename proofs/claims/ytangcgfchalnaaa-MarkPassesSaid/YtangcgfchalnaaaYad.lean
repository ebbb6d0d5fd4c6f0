/- Parts of the proof: RegT RegU RegF. -/
import Derived.Test.YtangcgfchalnaaaYaa
/- A region whose order Go leaves open, in which calls write to memory that an earlier call of it has made: one walk, in an order that the prover gives, serves every order, where operations of one value float, makers of rows of slots' values float, and each other writing step stands alone. No condition on the program. -/
namespace Go.Proofs.Ytangcgfchalnaaa
open Go.RowKit
abbrev Phi := Nat → Option (Value → World → Prop)
section
variable {P : Program} {ops : Array Oper} {md : Region.Mode} {Φ : Phi}
/-- What a step leaves: R of its value and the world. -/
def stepRes (P : Program) (R : Value → World → Prop) : Result Next → Prop
  | .ok (.value u) w' => R u w'
  | .ok (.enter f args) w' => Calls P f args w' (fun e w'' => ∃ v, e = .returned v ∧ R v w'')
  | _ => False
/-- C stays, F comes to it for good; D is what holds for now, D' what holds then. -/
def stepIn (P : Program) (C D : World → Prop) (o : Oper) (a : Act) (F D' : Value → World → Prop) : Prop :=
  ∀ w, C w → D w → stepRes P (fun v w' => C w' ∧ F v w' ∧ D' v w') ((execOp a.eval o).run P w)
/-- In every world the operation makes something of which F is so for good. -/
def flRes (w : World) (F : Value → World → Prop) : Result Next → Prop
  | .ok (.value u) w' => Below w.heap.size w w' ∧ F u w'
  | _ => False
def FL (P : Program) (o : Oper) (a : Act) (F : Value → World → Prop) : Prop := ∀ w, flRes w F ((execOp a.eval o).run P w)
def phiOf : List (Nat × (Value → World → Prop)) → Phi
  | [], _ => none
  | (j, F) :: r, i => if i = j then some F else phiOf r i
theorem phiOf_isSome : ∀ (fs : List (Nat × (Value → World → Prop))) (i : Nat), (phiOf fs i).isSome = (fs.map (·.1)).contains i
  | [], _ => rfl
  | (j, F) :: r, i => by
    unfold phiOf
    by_cases h : i = j
    · simp [h]
    · rw [if_neg h, phiOf_isSome r i]; simp [h]
abbrev Cont2 := (World → Prop) → (World → Prop) → Act → Prop
def gMake (P : Program) (ops : Array Oper) (C D : World → Prop) (K : Cont2) (a : Act) (o : Oper) (F : Value → World → Prop) : Prop :=
  Region.wanted o (yielded ops a.tmps) = true ∧ (∀ v, Stab (F v)) ∧ FL P o a F ∧ ∀ v, K (fun w => C w ∧ F v w) D (a.put o.dst v)
def gRest (P : Program) (ops : Array Oper) (C D : World → Prop) (K : Cont2) (a : Act) (o : Oper) : Prop :=
  (∃ v, YQ P ops o v C a ∧ K C D (a.put o.dst v)) ∨
  (Region.wanted o (yielded ops a.tmps) = true ∧ ∃ F D' : Value → World → Prop, (∀ v, Stab (F v)) ∧ (∀ v, Stab (D' v)) ∧ stepIn P C D o a F D' ∧ ∀ v, K (fun w => C w ∧ F v w) (D' v) (a.put o.dst v))
def gOper (P : Program) (ops : Array Oper) (φ : Option (Value → World → Prop)) (C D : World → Prop) (K : Cont2) (a : Act) (o : Oper) : Prop :=
  match φ with
  | some F => gMake P ops C D K a o F
  | none => gRest P ops C D K a o
def wpG (Φ : Phi) (P : Program) (md : Region.Mode) (ops : Array Oper) (n : Nat) (L : (World → Prop) → (World → Prop) → Array Bool → Act → Prop) : Nat → (World → Prop) → (World → Prop) → Array Bool → Act → Prop
  | 0, C, D, listed, a => L C D listed a
  | f + 1, C, D, listed, a =>
    Region.ready md ops listed ≠ [] ∧ ∀ i ∈ Region.ready md ops listed, i < n ∧ ∃ o, ops[i]? = some o ∧ gOper P ops (Φ i) C D (fun C' D' a' => wpG Φ P md ops n L f C' D' (listed.setIfInBounds i true) a') a o

theorem wpG_sound {n g : Nat} {L : (World → Prop) → (World → Prop) → Array Bool → Act → Prop} {Q : Exit → Act → World → Prop} (hL : ∀ C D listed a, L C D listed a → ∀ w, C w → D w → wpAny P md ops Q g listed a w) :
    ∀ (f : Nat) (C D : World → Prop) (listed : Array Bool) (a : Act) (w : World), Stab C → Stab D → C w → D w → wpG Φ P md ops n L f C D listed a → wpAny P md ops Q (f + g) listed a w
  | 0, _, _, _, _, w, _, _, hC, hD, h => by rw [Nat.zero_add]; exact hL _ _ _ _ h w hC hD
  | f + 1, C, D, listed, a, w, hSC, hSD, hC, hD, h => by
    rw [show f + 1 + g = (f + g) + 1 by omega]
    refine ⟨fun h0 => absurd h0 h.1, fun i hi => ?_⟩
    obtain ⟨o, ho, h2⟩ := (h.2 i hi).2
    unfold wpOp
    simp only [ho]
    unfold gOper at h2
    split at h2
    · rename_i F _
      obtain ⟨hw, hF, hl, hk⟩ := h2
      rw [if_pos hw]
      refine .inl ?_
      unfold Oper.wp
      have h3 := hl w
      generalize (execOp a.eval o).run P w = r at *
      cases r with
      | ok nx w' =>
        cases nx <;> simp only [flRes] at h3 <;> simp only [Oper.upon]
        case value u => exact wpG_sound hL f _ _ _ _ _ (hSC.and (hF u)) hSD ⟨hSC _ _ hC h3.1, h3.2⟩ (hSD _ _ hD h3.1) (hk u)
      | halt x w' => simp only [flRes] at h3
    rcases h2 with ⟨v, ⟨hw, hq⟩ | ⟨hw, rfl⟩, hk⟩ | ⟨hw, F, D', hF, hD', hl, hk⟩
    · rw [if_pos hw]
      refine .inl ?_
      unfold Oper.wp
      have h3 := hq w hC
      generalize (execOp a.eval o).run P w = r at *
      cases r with
      | ok nx w' =>
        cases nx <;> simp only [quietRes] at h3 <;> simp only [Oper.upon]
        case value u =>
          obtain ⟨e1, e2⟩ := h3
          rw [e1, e2]
          exact wpG_sound hL f _ _ _ _ _ hSC hSD hC hD hk
        case skip =>
          obtain ⟨e1, e2⟩ := h3
          rw [e1, ← e2]
          exact wpG_sound hL f _ _ _ _ _ hSC hSD hC hD hk
        case enter fn args =>
          obtain ⟨e1, hc⟩ := h3
          rw [e1]
          exact hc.mono fun e w'' ⟨he, hb⟩ => by
            subst he
            exact wpG_sound hL f _ _ _ _ _ hSC hSD (hSC _ _ hC hb) (hSD _ _ hD hb) hk
      | halt x w' => simp only [quietRes] at h3
    · rw [if_neg (by rw [hw]; decide)]
      exact wpG_sound hL f _ _ _ _ _ hSC hSD hC hD hk
    · rw [if_pos hw]
      refine .inl ?_
      unfold Oper.wp
      have h3 := hl w hC hD
      generalize (execOp a.eval o).run P w = r at *
      cases r with
      | ok nx w' =>
        cases nx <;> simp only [stepRes] at h3 <;> simp only [Oper.upon]
        case value u => exact wpG_sound hL f _ _ _ _ _ (hSC.and (hF u)) (hD' u) ⟨h3.1, h3.2.1⟩ h3.2.2 (hk u)
        case enter fn args =>
          exact h3.mono fun e w'' ⟨v, he, hp⟩ => by
            subst he
            exact wpG_sound hL f _ _ _ _ _ (hSC.and (hF v)) (hD' v) ⟨hp.1, hp.2.1⟩ hp.2.2 (hk v)
      | halt x w' => simp only [stepRes] at h3

/-- An operation of one value may be taken first. -/
theorem wpG_first {n i : Nat} {oi : Oper} {v : Value} {L : (World → Prop) → (World → Prop) → Array Bool → Act → Prop} (hi : ops[i]? = some oi) (hφ : Φ i = none) (hsel : ∀ (j : Nat) (o : Oper) cs b, ops[j]? = some o → o.op ≠ .select cs b)
    (hT : HeadOK md ops n) (hin : i < n) (hdone : ∀ C D listed a, L C D listed a → ∀ j ∈ Region.ready md ops listed, n ≤ j) :
    ∀ (f : Nat) (C D : World → Prop) (listed : Array Bool) (a : Act), HeadInv md ops n listed →
      (∀ j oj, ops[j]? = some oj → j ≠ i → listed.getD j true = false → (∀ e ∈ oj.after, Region.binds md e = true → e.on ≠ i) → oi.apart ops oj = true) →
      i ∈ Region.ready md ops listed → YQ P ops oi v C a →
      wpG Φ P md ops n L f C D (listed.setIfInBounds i true) (a.put oi.dst v) → wpG Φ P md ops n L (f + 1) C D listed a := by
  intro f
  induction f with
  | zero =>
    intro C D listed a inv _ hr hy H
    have hun := (mem_ready.1 hr).1
    refine ⟨fun h => (by rw [h] at hr; cases hr), fun j hj => ?_⟩
    have hjn := hT listed inv i hin hun j hj
    refine ⟨hjn, ?_⟩
    by_cases hji : j = i
    · subst hji; refine ⟨oi, hi, ?_⟩; rw [hφ]; exact .inl ⟨v, hy, H⟩
    · have := hdone _ _ _ _ H j (ready_mono hj hji)
      omega
  | succ f ih =>
    intro C D listed a inv hfree hr hy H
    have hun := (mem_ready.1 hr).1
    refine ⟨fun h => (by rw [h] at hr; cases hr), fun j hj => ?_⟩
    have hjn := hT listed inv i hin hun j hj
    refine ⟨hjn, ?_⟩
    by_cases hji : j = i
    · subst hji; refine ⟨oi, hi, ?_⟩; rw [hφ]; exact .inl ⟨v, hy, H⟩
    · obtain ⟨oj, hoj, h1⟩ := (H.2 j (ready_mono hj hji)).2
      obtain ⟨hjun, oj', hoj', hall⟩ := mem_ready.1 hj
      obtain rfl : oj = oj' := Option.some.inj (hoj.symm.trans hoj')
      have hap := hfree j oj hoj hji hjun (not_on hun hall)
      obtain ⟨g1, g2, g3⟩ := Oper.apart_spec hap
      have hsj := fun cs b => hsel j oj cs b hoj
      have hE : execOp (a.put oi.dst v).eval oj = execOp a.eval oj := execOp_put oj hsj a oi.dst v g1
      have hW := wanted_put oj a oi.dst v g1
      refine ⟨oj, hoj, ?_⟩
      unfold gOper at h1 ⊢
      split at h1
      · obtain ⟨hw, hF, hl, hk⟩ := h1
        refine ⟨by rw [hW] at hw; exact hw, hF, ?_, fun u => ?_⟩
        · unfold FL at *
          rw [hE] at hl
          exact hl
        · refine ih _ _ _ _ (inv.set hj hjn) (free_set hfree hjun) (ready_mono hr (Ne.symm hji)) (YQ.keep hap (fun cs b => hsel i oi cs b hi) _ _ _ _ (fun w hw => hw.1) hy) ?_
          rw [Array.setIfInBounds_comm _ _ hji, ← Act.put_comm a v u g2]
          exact hk u
      rcases h1 with ⟨u, hyj, hk⟩ | ⟨hw, F, D', hF, hD', hl, hk⟩
      · refine .inl ⟨u, ?_, ?_⟩
        · unfold YQ quietIn at *
          rw [hE, hW] at hyj
          exact hyj
        · refine ih _ _ _ _ (inv.set hj hjn) (free_set hfree hjun) (ready_mono hr (Ne.symm hji)) (YQ.keep hap (fun cs b => hsel i oi cs b hi) _ _ _ _ (fun w hw => hw) hy) ?_
          rw [Array.setIfInBounds_comm _ _ hji, ← Act.put_comm a v u g2]
          exact hk
      · refine .inr ⟨by rw [hW] at hw; exact hw, F, D', hF, hD', ?_, fun u => ?_⟩
        · unfold stepIn at *
          rw [hE] at hl
          exact hl
        · refine ih _ _ _ _ (inv.set hj hjn) (free_set hfree hjun) (ready_mono hr (Ne.symm hji)) (YQ.keep hap (fun cs b => hsel i oi cs b hi) _ _ _ _ (fun w hw => hw.1) hy) ?_
          rw [Array.setIfInBounds_comm _ _ hji, ← Act.put_comm a v u g2]
          exact hk u

/-- Nobody but i and makers may come up till i has come. -/
def BlocksF (md : Region.Mode) (ops : Array Oper) (Φ : Phi) (i : Nat) (listed : Array Bool) : Prop :=
  ∀ j oj, ops[j]? = some oj → j ≠ i → listed.getD j true = false → Φ j = none →
    ∃ e ∈ oj.after, Region.binds md e = true ∧ listed.getD e.on false = false ∧ (e.on = i ∨ Φ e.on = none)
theorem BlocksF.maker {i j : Nat} {oj : Oper} {listed : Array Bool} (h : BlocksF md ops Φ i listed) (hj : j ∈ Region.ready md ops listed) (hoj : ops[j]? = some oj) (hji : j ≠ i) : ∃ F, Φ j = some F := by
  cases ha : Φ j with
  | some F => exact ⟨F, rfl⟩
  | none =>
    obtain ⟨hjun, o', ho', hall⟩ := mem_ready.1 hj
    obtain rfl : oj = o' := Option.some.inj (hoj.symm.trans ho')
    obtain ⟨e, he, hb, hl, _⟩ := h j oj hoj hji hjun ha
    rw [hall e he hb] at hl
    cases hl
theorem BlocksF.set {i j : Nat} {F : Value → World → Prop} {listed : Array Bool} (h : BlocksF md ops Φ i listed) (hji : j ≠ i) (ht : Φ j = some F) : BlocksF md ops Φ i (listed.setIfInBounds j true) := fun k ok hok hki hun ha => by
  have hjk : j ≠ k := fun e => by subst e; rw [ha] at ht; cases ht
  rw [getD_set_ne true hjk] at hun
  obtain ⟨e, he, hb, hl, hor⟩ := h k ok hok hki hun ha
  refine ⟨e, he, hb, ?_, hor⟩
  rw [getD_set_ne false ?_]
  · exact hl
  · intro hje
    rcases hor with h1 | h1
    · exact hji (hje.trans h1)
    · rw [hje, h1] at ht; cases ht
theorem and_swap (C A B : World → Prop) : (fun w => (C w ∧ A w) ∧ B w) = (fun w => (C w ∧ B w) ∧ A w) := funext fun _ => propext ⟨fun h => ⟨⟨h.1.1, h.2⟩, h.1.2⟩, fun h => ⟨⟨h.1.1, h.2⟩, h.1.2⟩⟩
/-- A maker may be taken first. -/
theorem wpG_float {n i : Nat} {oi : Oper} {F : Value → World → Prop} {L : (World → Prop) → (World → Prop) → Array Bool → Act → Prop} (hi : ops[i]? = some oi) (hφ : Φ i = some F) (hF : ∀ v, Stab (F v)) (hsel : ∀ (j : Nat) (o : Oper) cs b, ops[j]? = some o → o.op ≠ .select cs b)
    (hT : HeadOK md ops n) (hin : i < n) (hdone : ∀ C D listed a, L C D listed a → ∀ j ∈ Region.ready md ops listed, n ≤ j) :
    ∀ (f : Nat) (C D : World → Prop) (listed : Array Bool) (a : Act), HeadInv md ops n listed → BlocksF md ops Φ i listed →
      (∀ j oj, ops[j]? = some oj → j ≠ i → listed.getD j true = false → (∀ e ∈ oj.after, Region.binds md e = true → e.on ≠ i) → oi.apart ops oj = true) →
      i ∈ Region.ready md ops listed → Region.wanted oi (yielded ops a.tmps) = true → FL P oi a F →
      (∀ v, wpG Φ P md ops n L f (fun w => C w ∧ F v w) D (listed.setIfInBounds i true) (a.put oi.dst v)) → wpG Φ P md ops n L (f + 1) C D listed a := by
  intro f
  induction f with
  | zero =>
    intro C D listed a inv _ _ hr hw hl H
    have hun := (mem_ready.1 hr).1
    refine ⟨fun h => (by rw [h] at hr; cases hr), fun j hj => ?_⟩
    have hjn := hT listed inv i hin hun j hj
    refine ⟨hjn, ?_⟩
    by_cases hji : j = i
    · subst hji; refine ⟨oi, hi, ?_⟩; rw [hφ]; exact ⟨hw, hF, hl, H⟩
    · have := hdone _ _ _ _ (H undef) j (ready_mono hj hji)
      omega
  | succ f ih =>
    intro C D listed a inv hbl hfree hr hw hl H
    have hun := (mem_ready.1 hr).1
    refine ⟨fun h => (by rw [h] at hr; cases hr), fun j hj => ?_⟩
    have hjn := hT listed inv i hin hun j hj
    refine ⟨hjn, ?_⟩
    by_cases hji : j = i
    · subst hji; refine ⟨oi, hi, ?_⟩; rw [hφ]; exact ⟨hw, hF, hl, H⟩
    · obtain ⟨hjun, oj, hoj, hall⟩ := mem_ready.1 hj
      obtain ⟨Fj, hφj⟩ := hbl.maker hj hoj hji
      have hap := hfree j oj hoj hji hjun (not_on hun hall)
      obtain ⟨g1, g2, g3⟩ := Oper.apart_spec hap
      have hsj := fun cs b => hsel j oj cs b hoj
      have hc : ∀ v, gMake P ops (fun w => C w ∧ F v w) D (fun C' D' a' => wpG Φ P md ops n L f C' D' ((listed.setIfInBounds i true).setIfInBounds j true) a') (a.put oi.dst v) oj Fj := fun v => by
        obtain ⟨o', ho', h1⟩ := ((H v).2 j (ready_mono hj hji)).2
        obtain rfl : oj = o' := Option.some.inj (hoj.symm.trans ho')
        rw [hφj] at h1
        exact h1
      refine ⟨oj, hoj, ?_⟩
      rw [hφj]
      obtain ⟨w0, s0, l0, _⟩ := hc undef
      refine ⟨by rw [wanted_put oj a oi.dst undef g1] at w0; exact w0, s0, ?_, fun u => ?_⟩
      · unfold FL at *
        rw [execOp_put oj hsj a oi.dst undef g1] at l0
        exact l0
      · refine ih _ _ _ _ (inv.set hj hjn) (hbl.set hji hφj) (free_set hfree hjun) (ready_mono hr (Ne.symm hji)) (by rw [wanted_put oi a oj.dst u g3]; exact hw) (by unfold FL at *; rw [execOp_put oi (fun cs b => hsel i oi cs b hi) a oj.dst u g3]; exact hl) (fun v => ?_)
        rw [Array.setIfInBounds_comm _ _ hji, ← Act.put_comm a v u g2, and_swap]
        exact (hc v).2.2.2 u

def blocksFB (md : Region.Mode) (ops : Array Oper) (fs : List Nat) (i : Nat) (listed : Array Bool) : Bool :=
  (List.range ops.size).all fun j => j == i || listed.getD j true || fs.contains j || match ops[j]? with
    | some oj => oj.after.any fun e => Region.binds md e && !listed.getD e.on false && (e.on == i || !fs.contains e.on)
    | none => true
theorem blocksFB_spec {fs : List Nat} {i : Nat} {listed : Array Bool} (hfs : ∀ i, (Φ i).isSome = fs.contains i) (h : blocksFB md ops fs i listed = true) : BlocksF md ops Φ i listed := fun j oj hoj hji hun ha => by
  have hlt : j < ops.size := (Array.getElem?_eq_some_iff.1 hoj).1
  have hj : fs.contains j = false := by rw [← hfs, ha]; rfl
  simp only [blocksFB, List.all_eq_true, List.mem_range] at h
  have h1 := h j hlt
  simp only [hoj, Bool.or_eq_true, beq_iff_eq, hji, false_or, hun, Bool.false_eq_true, hj] at h1
  obtain ⟨e, he, hb⟩ := Array.any_eq_true'.1 h1
  simp only [Bool.and_eq_true, Bool.not_eq_true', Bool.or_eq_true, beq_iff_eq] at hb
  refine ⟨e, he, hb.1.1, hb.1.2, hb.2.imp id fun h2 => ?_⟩
  have := hfs e.on
  rw [h2] at this
  cases hq : Φ e.on with
  | none => rfl
  | some F => rw [hq] at this; cases this

/-- k: a step that stands alone, or a maker. -/
def permT (md : Region.Mode) (ops : Array Oper) (fs : List Nat) (n g : Nat) : List (Nat × Bool) → Array Bool → Bool
  | [], listed => Region.seqB md ops g n listed
  | (i, k) :: r, listed => decide (i < n) && (if k then (if fs.contains i then (Region.ready md ops listed).contains i && Region.free md ops listed i && blocksFB md ops fs i listed else decide (Region.ready md ops listed = [i])) else !fs.contains i && ((Region.ready md ops listed).contains i && Region.free md ops listed i)) && permT md ops fs n g r (listed.setIfInBounds i true)
def condT (md : Region.Mode) (ops : Array Oper) (fs : List Nat) (n : Nat) (listed : Array Bool) (i : Nat) (k : Bool) : Bool :=
  decide (i < n) && (if k then (if fs.contains i then (Region.ready md ops listed).contains i && Region.free md ops listed i && blocksFB md ops fs i listed else decide (Region.ready md ops listed = [i])) else !fs.contains i && ((Region.ready md ops listed).contains i && Region.free md ops listed i))
/-- The check, a step at a time (for a region of many operations: each step a theorem of its own). -/
theorem permT_cons {fs : List Nat} {n g i : Nat} {k : Bool} {r : List (Nat × Bool)} {listed listed' : Array Bool} (hc : condT md ops fs n listed i k = true) (hl : listed.setIfInBounds i true = listed') (hr : permT md ops fs n g r listed' = true) :
    permT md ops fs n g ((i, k) :: r) listed = true := by
  subst hl
  unfold permT
  unfold condT at hc
  rw [hr, Bool.and_true]
  exact hc
/-- A region's operations, found in a function's text. -/
def regOf (id : Nat) : Code → Option (List Oper)
  | .region i ops _ => if i = id then some ops.toList else none
  | .seq a b => match regOf id a with | some l => some l | none => regOf id b
  | .cond _ a b => match regOf id a with | some l => some l | none => regOf id b
  | .block _ c => regOf id c
  | .loop c => regOf id c
  | .scope c => regOf id c
  | _ => none
def wpT (Φ : Phi) (P : Program) (ops : Array Oper) (E : (World → Prop) → (World → Prop) → Act → Prop) : List (Nat × Bool) → (World → Prop) → (World → Prop) → Act → Prop
  | [], C, D, a => E C D a
  | (i, k) :: r, C, D, a => match ops[i]? with
    | none => False
    | some o => match k, Φ i with
      | true, some F => Region.wanted o (yielded ops a.tmps) = true ∧ (∀ v, Stab (F v)) ∧ FL P o a F ∧ ∀ v, wpT Φ P ops E r (fun w => C w ∧ F v w) D (a.put o.dst v)
      | true, none => Region.wanted o (yielded ops a.tmps) = true ∧ ∃ F D' : Value → World → Prop, (∀ v, Stab (F v)) ∧ (∀ v, Stab (D' v)) ∧ stepIn P C D o a F D' ∧ ∀ v, wpT Φ P ops E r (fun w => C w ∧ F v w) (D' v) (a.put o.dst v)
      | false, _ => ∃ v, YQ P ops o v C a ∧ wpT Φ P ops E r C D (a.put o.dst v)
theorem wpG_of_wpT {n g : Nat} {E : (World → Prop) → (World → Prop) → Act → Prop} {fs : List Nat} (hfs : ∀ i, (Φ i).isSome = fs.contains i) (hsel : Region.noSelect ops = true) (hT : HeadOK md ops n) :
    ∀ (l : List (Nat × Bool)) (C D : World → Prop) (listed : Array Bool) (a : Act), HeadInv md ops n listed → permT md ops fs n g l listed = true → wpT Φ P ops E l C D a →
      wpG Φ P md ops n (fun C D listed a => Region.seqB md ops g n listed = true ∧ E C D a) l.length C D listed a
  | [], C, D, listed, a, _, hB, h => ⟨hB, h⟩
  | (i, k) :: r, C, D, listed, a, inv, hB, h => by
    simp only [permT, Bool.and_eq_true, decide_eq_true_eq] at hB
    obtain ⟨⟨hin, hk⟩, hB'⟩ := hB
    have hsel' := Region.noSelect_spec hsel
    have hdone : ∀ C D listed a, (Region.seqB md ops g n listed = true ∧ E C D a) → ∀ j ∈ Region.ready md ops listed, n ≤ j := fun C D listed a hL => seqB_ready hL.1
    unfold wpT at h
    split at h
    · exact h.elim
    · rename_i o ho
      cases k with
      | true =>
        simp only [if_true] at hk
        cases hφ : Φ i with
        | some F =>
          have hyc : fs.contains i = true := by rw [← hfs, hφ]; rfl
          rw [if_pos hyc] at hk
          simp only [Bool.and_eq_true] at hk
          have hr : i ∈ Region.ready md ops listed := by simpa using hk.1.1
          simp only [hφ] at h
          obtain ⟨hw, hF, hl, hc⟩ := h
          exact wpG_float ho hφ hF hsel' hT hin hdone _ C D listed a inv (blocksFB_spec hfs hk.2) (Region.free_spec ho hk.1.2) hr hw hl (fun v => wpG_of_wpT hfs hsel hT r _ _ _ _ (inv.set hr hin) hB' (hc v))
        | none =>
          have hnc : ¬ fs.contains i = true := by rw [← hfs, hφ]; decide
          rw [if_neg hnc, decide_eq_true_eq] at hk
          have hr : i ∈ Region.ready md ops listed := by rw [hk]; exact List.mem_cons_self
          simp only [hφ] at h
          obtain ⟨hw, F, D', hF, hD', hl, hc⟩ := h
          refine ⟨by rw [hk]; simp, fun j hj => ?_⟩
          rw [hk] at hj
          obtain rfl : j = i := by simpa using hj
          refine ⟨hin, o, ho, ?_⟩
          rw [hφ]
          exact .inr ⟨hw, F, D', hF, hD', hl, fun v => wpG_of_wpT hfs hsel hT r _ _ _ _ (inv.set hr hin) hB' (hc v)⟩
      | false =>
        simp only [Bool.false_eq_true, if_false, Bool.and_eq_true, Bool.not_eq_true'] at hk
        have hφ : Φ i = none := by
          have := hfs i
          rw [hk.1] at this
          cases hq : Φ i with
          | none => rfl
          | some F => rw [hq] at this; cases this
        have hr : i ∈ Region.ready md ops listed := by simpa using hk.2.1
        obtain ⟨v, hy, hc⟩ := h
        exact wpG_first ho hφ hsel' hT hin hdone _ C D listed a inv (Region.free_spec ho hk.2.2) hr hy (wpG_of_wpT hfs hsel hT r _ _ _ _ (inv.set hr hin) hB' hc)
def regT (md : Region.Mode) (ops : Array Oper) (fs : List Nat) (n : Nat) (l : List (Nat × Bool)) : Bool :=
  Region.noSelect ops && headB md ops n && decide (l.length = n) && decide (n ≤ ops.size) && permT md ops fs n (ops.size - n) l (Array.replicate ops.size false)
structure WpT (Φ : Phi) (P : Program) (l : List Oper) (E : (World → Prop) → (World → Prop) → Act → Prop) (r : List (Nat × Bool)) (C D : World → Prop) (a : Act) : Prop where
  out : wpT Φ P l.toArray E r C D a
/-- ONE WALK SERVES EVERY ORDER. -/
theorem wp_region_two {id : Nat} {Q : Exit → Act → World → Prop} {a : Act} {w : World} {l : List Oper} (n : Nat) (pm : List (Nat × Bool)) (fl : List (Nat × (Value → World → Prop))) (fs : List Nat) (hfl : fs = fl.map (·.1)) (C D : World → Prop) (hm : P.follows .mixedOrders = true) (hB : regT .any l.toArray fs n pm = true)
    (hSC : Stab C) (hSD : Stab D) (hC : C w.drew) (hD : D w.drew) (h : WpT (phiOf fl) P l (fun C' D' a' => ∀ w', C' w' → D' w' → wpList P l.toArray Q (l.drop n) a' w') pm C D a) : (Code.region id l.toArray true).wp P Q a w := by
  simp only [regT, Bool.and_eq_true, decide_eq_true_eq] at hB
  obtain ⟨⟨⟨⟨hsel, hh⟩, hln⟩, hn⟩, hp⟩ := hB
  have hdl : (l.drop n).length = l.toArray.size - n := by simp
  have inv0 : HeadInv .any l.toArray n (Array.replicate l.toArray.size false) :=
    ⟨by simp, fun j oj _ hl => (by rw [getD_replicate_false] at hl; cases hl), fun t _ ht => getD_in (by simpa using ht) (getD_replicate_false _ _)⟩
  have H := wpG_of_wpT (md := .any) (g := l.toArray.size - n) (fun i => by rw [hfl]; exact phiOf_isSome fl i) hsel (headB_spec hh) pm C D _ a inv0 hp h.out
  refine wp_region_any hm ?_
  have := wpG_sound (Q := Q) (g := l.toArray.size - n) (fun C' D' listed a' hL w' hw' hd' => by
    have := wpAny_of_seq (md := .any) (Q' := Q) (l.drop n) n listed a' w' (fun j => by simp [List.getElem?_drop]) (by rw [hdl]; exact hL.1) (hL.2 w' hw' hd')
    rwa [hdl] at this) pm.length C D _ a w.drew hSC hSD hC hD H
  rw [hln, show n + (l.toArray.size - n) = l.toArray.size by omega] at this
  exact this

/-- The same, the check made ahead. -/
theorem wp_region_two' {id : Nat} {Q : Exit → Act → World → Prop} {a : Act} {w : World} {l : List Oper} (l0 : List Oper) (hl : l = l0) (n : Nat) (pm : List (Nat × Bool)) (fl : List (Nat × (Value → World → Prop))) (fs : List Nat) (hfl : fs = fl.map (·.1)) (C D : World → Prop) (hm : P.follows .mixedOrders = true) (hB : regT .any l0.toArray fs n pm = true)
    (hSC : Stab C) (hSD : Stab D) (hC : C w.drew) (hD : D w.drew) (h : WpT (phiOf fl) P l (fun C' D' a' => ∀ w', C' w' → D' w' → wpList P l.toArray Q (l.drop n) a' w') pm C D a) : (Code.region id l.toArray true).wp P Q a w :=
  wp_region_two n pm fl fs hfl C D hm (by rw [hl]; exact hB) hSC hSD hC hD h
theorem regT_of {l0 : List Oper} {fs : List Nat} {n : Nat} {pm : List (Nat × Bool)} (h1 : (Region.noSelect l0.toArray && headB .any l0.toArray n && decide (pm.length = n) && decide (n ≤ l0.toArray.size)) = true) (h2 : permT .any l0.toArray fs n (l0.toArray.size - n) pm (Array.replicate l0.toArray.size false) = true) : regT .any l0.toArray fs n pm = true := by
  unfold regT; rw [h1, h2]; rfl
variable {ts : List Value} {df : List Deferred}
variable {E : (World → Prop) → (World → Prop) → Act → Prop} {r : List (Nat × Bool)} {C D : World → Prop} {a : Act} {i : Nat} {o : Oper} {l : List Oper}
theorem wt_nil (h : E C D a) : WpT Φ P l E [] C D a := ⟨h⟩
theorem wt_q (ho : nthO l i = some o) (hw : wantB l ts o.guard = true) (h : ∃ v, (∀ w, C w → quietRes P w v ((execOp (Act.eval { tmps := ts.toArray, defers := df }) o).run P w)) ∧
    ∀ K : Act → Prop, Shut (∀ a, WpT Φ P l E r C D a → K a) → K (Act.put { tmps := ts.toArray, defers := df } o.dst v)) : WpT Φ P l E ((i, false) :: r) C D { tmps := ts.toArray, defers := df } := by
  obtain ⟨v, hq, h⟩ := h
  have hw : Region.wanted o (yielded l.toArray ts.toArray) = true := wantB_spec hw
  have hk := (h (fun a => WpT Φ P l E r C D a) (fun _ h => h)).out
  rw [← nthO_eq] at ho
  refine ⟨?_⟩
  unfold wpT
  simp only [ho]
  exact ⟨v, .inl ⟨hw, hq⟩, hk⟩
theorem wt_skip (ho : nthO l i = some o) (hw : wantN l ts o.guard = true)
    (h : ∀ K : Act → Prop, Shut (∀ a, WpT Φ P l E r C D a → K a) → K (Act.put { tmps := ts.toArray, defers := df } o.dst undef)) : WpT Φ P l E ((i, false) :: r) C D { tmps := ts.toArray, defers := df } := by
  have hw : Region.wanted o (yielded l.toArray ts.toArray) = false := wantN_spec hw
  have hk := (h (fun a => WpT Φ P l E r C D a) (fun _ h => h)).out
  rw [← nthO_eq] at ho
  refine ⟨?_⟩
  unfold wpT
  simp only [ho]
  exact ⟨undef, .inr ⟨hw, rfl⟩, hk⟩
theorem wt_make (F : Value → World → Prop) (hφ : Φ i = some F) (hF : ∀ v, Stab (F v)) (ho : nthO l i = some o) (hw : wantB l ts o.guard = true)
    (hl : ∀ w, flRes w F ((execOp (Act.eval { tmps := ts.toArray, defers := df }) o).run P w))
    (h : ∀ K : (World → Prop) → Act → Prop, Shut (∀ C a, WpT Φ P l E r C D a → K C a) → ∀ v, K (fun w => C w ∧ F v w) (Act.put { tmps := ts.toArray, defers := df } o.dst v)) :
    WpT Φ P l E ((i, true) :: r) C D { tmps := ts.toArray, defers := df } := by
  have hw : Region.wanted o (yielded l.toArray ts.toArray) = true := wantB_spec hw
  have hk := fun v => (h (fun C a => WpT Φ P l E r C D a) (fun _ _ h => h) v).out
  rw [← nthO_eq] at ho
  refine ⟨?_⟩
  unfold wpT
  simp only [ho, hφ]
  exact ⟨hw, hF, hl, hk⟩
def stepR (C : World → Prop) (F D : Value → World → Prop) (v : Value) (w : World) : Prop := C w ∧ F v w ∧ D v w
def Triv (_ : World) : Prop := True
theorem triv (w : World) : Triv w := True.intro
theorem wt_step (hφ : Φ i = none) (F D' : Value → World → Prop) (hF : ∀ v, Stab (F v)) (hD : ∀ v, Stab (D' v)) (ho : nthO l i = some o) (hw : wantB l ts o.guard = true)
    (hl : ∀ w, C w → D w → stepRes P (stepR C F D') ((execOp (Act.eval { tmps := ts.toArray, defers := df }) o).run P w))
    (h : ∀ K : (World → Prop) → (World → Prop) → Act → Prop, Shut (∀ C D a, WpT Φ P l E r C D a → K C D a) → ∀ v, K (fun w => C w ∧ F v w) (D' v) (Act.put { tmps := ts.toArray, defers := df } o.dst v)) :
    WpT Φ P l E ((i, true) :: r) C D { tmps := ts.toArray, defers := df } := by
  have hw : Region.wanted o (yielded l.toArray ts.toArray) = true := wantB_spec hw
  have hk := fun v => (h (fun C D a => WpT Φ P l E r C D a) (fun _ _ _ h => h) v).out
  rw [← nthO_eq] at ho
  refine ⟨?_⟩
  unfold wpT
  simp only [ho, hφ]
  exact ⟨hw, F, D', hF, hD, hl, hk⟩
theorem st_enter {R : Value → World → Prop} {w : World} {f : FuncId} {args : Array Value} (h : Calls P f args w (fun e w'' => ∃ v, e = .returned v ∧ R v w'')) : stepRes P R (.ok (.enter f args) w) := h
end
end Go.Proofs.Ytangcgfchalnaaa

/- A region's operation whose guard was passed over itself: passed over, too. No program. -/
namespace Go.Proofs.Ytangcgfchalnaaa
open Go.RowKit
def isUndef : Option Value → Bool
  | some (.tuple _) => true
  | _ => false
def wantU (l : List Oper) (ts : List Value) : Option (Nat × Bool) → Bool
  | none => false
  | some (j, _) => match dstOf (nthO l j) with
    | some d => isUndef (nthV ts d)
    | none => false
theorem wantU_spec {l : List Oper} {ts : List Value} {o : Oper} (h : wantU l ts o.guard = true) : Region.wanted o (yielded l.toArray ts.toArray) = false := by
  unfold Region.wanted
  cases hg : o.guard with
  | none => rw [hg] at h; simp [wantU] at h
  | some g =>
    obtain ⟨j, b⟩ := g
    rw [hg] at h
    have hy : yielded l.toArray ts.toArray j = none := by
      have h : (match dstOf (nthO l j) with | some d => isUndef (nthV ts d) | none => false) = true := h
      unfold yielded
      rw [nthO_eq]
      cases hn : nthO l j with
      | none => rw [hn] at h; simp [dstOf] at h
      | some o =>
        rw [hn] at h
        simp only [dstOf, Option.bind_some] at h ⊢
        cases hd : o.dst with
        | none => rw [hd] at h; simp at h
        | some d =>
          rw [hd] at h
          simp only [Option.bind_some] at h ⊢
          rw [nthV_eq]
          cases hv : nthV ts d with
          | none => rfl
          | some v =>
            rw [hv] at h
            cases v <;> first | rfl | (simp [isUndef] at h)
    simp only [hy]
    rfl
section
variable {P : Program} {B : Nat} {Z : TypeId → Obj} {ts : List Value} {df : List Deferred}
variable {r : List (Nat × Bool)} {C D : World → Prop} {U : List Nat} {i : Nat} {k : Bool} {o : Oper} {l : List Oper}
theorem wpP_skipu {E : (World → Prop) → Act → Prop} (ho : nthO l i = some o) (ha : allocOf o = none) (hw : wantU l ts o.guard = true)
    (h : ∀ K : Act → Prop, Shut (∀ a, WpS B P l Z E r C U a → K a) → K (Act.put { tmps := ts.toArray, defers := df } o.dst undef)) : WpS B P l Z E ((i, k) :: r) C U { tmps := ts.toArray, defers := df } := by
  have hw : Region.wanted o (yielded l.toArray ts.toArray) = false := wantU_spec hw
  have hk := (h (fun a => WpS B P l Z E r C U a) (fun _ h => h)).out
  rw [← nthO_eq] at ho
  refine ⟨?_⟩
  unfold wpP
  simp only [ho, ha, hw, Bool.false_eq_true, if_false]
  exact hk
theorem wt_skipu {Φ : Phi} {E : (World → Prop) → (World → Prop) → Act → Prop} (ho : nthO l i = some o) (hw : wantU l ts o.guard = true)
    (h : ∀ K : Act → Prop, Shut (∀ a, WpT Φ P l E r C D a → K a) → K (Act.put { tmps := ts.toArray, defers := df } o.dst undef)) : WpT Φ P l E ((i, false) :: r) C D { tmps := ts.toArray, defers := df } := by
  have hw : Region.wanted o (yielded l.toArray ts.toArray) = false := wantU_spec hw
  have hk := (h (fun a => WpT Φ P l E r C D a) (fun _ h => h)).out
  rw [← nthO_eq] at ho
  refine ⟨?_⟩
  unfold wpT
  simp only [ho]
  exact ⟨undef, .inr ⟨hw, rfl⟩, hk⟩
end
end Go.Proofs.Ytangcgfchalnaaa

/- A region whose order is open, walked along a tree of orders: quiet operations float; where more than one step may come next, each of them is walked. No program. -/
namespace Go.Proofs.Ytangcgfchalnaaa
open Go.RowKit
/-- A plan of the walk: the end; a quiet operation; a step, and the other ones that may come in its place. -/
inductive Pl where
  | nil : Pl
  | q (i : Nat) (r : Pl) : Pl
  | alt (i : Nat) (r s : Pl) : Pl
  | stop : Pl
def Pl.ids : Pl → List Nat
  | .alt i _ s => i :: s.ids
  | _ => []
section
variable {md : Region.Mode} {ops : Array Oper} {P : Program}
def permF (md : Region.Mode) (ops : Array Oper) (n g : Nat) : Pl → Bool → Nat → Array Bool → Bool
  | .nil, t, f, listed => t && (f == 0) && Region.seqB md ops g n listed
  | .q i r, t, f, listed => t && (f != 0) && decide (i < n) && (Region.ready md ops listed).contains i && Region.free md ops listed i && permF md ops n g r true (f - 1) (listed.setIfInBounds i true)
  | .alt i r s, t, f, listed => (f != 0) && decide (i < n) && (!t || decide (Region.ready md ops listed = i :: s.ids)) && permF md ops n g r true (f - 1) (listed.setIfInBounds i true) && permF md ops n g s false f listed
  | .stop, t, _, _ => !t
def wpF (P : Program) (ops : Array Oper) (E : (World → Prop) → (World → Prop) → Act → Prop) : Pl → (World → Prop) → (World → Prop) → Act → Prop
  | .nil, C, D, a => E C D a
  | .q i r, C, D, a => ∃ o, ops[i]? = some o ∧ ∃ v, YQ P ops o v C a ∧ wpF P ops E r C D (a.put o.dst v)
  | .alt i r s, C, D, a => (∃ o, ops[i]? = some o ∧ Region.wanted o (yielded ops a.tmps) = true ∧ ∃ F D' : Value → World → Prop, (∀ v, Stab (F v)) ∧ (∀ v, Stab (D' v)) ∧ stepIn P C D o a F D' ∧ ∀ v, wpF P ops E r (fun w => C w ∧ F v w) (D' v) (a.put o.dst v)) ∧ wpF P ops E s C D a
  | .stop, _, _, _ => True
theorem wpG_of_wpF {n g : Nat} {E : (World → Prop) → (World → Prop) → Act → Prop} (hsel : Region.noSelect ops = true) (hT : HeadOK md ops n) :
    ∀ (l : Pl) (t : Bool) (f : Nat) (C D : World → Prop) (listed : Array Bool) (a : Act), HeadInv md ops n listed → permF md ops n g l t f listed = true → wpF P ops E l C D a →
      (t = true → wpG (fun _ => none) P md ops n (fun C D listed a => Region.seqB md ops g n listed = true ∧ E C D a) f C D listed a) ∧
      (t = false → ∀ i ∈ l.ids, i ∈ Region.ready md ops listed → ∃ f', f = f' + 1 ∧ i < n ∧ ∃ o, ops[i]? = some o ∧ gRest P ops C D (fun C' D' a' => wpG (fun _ => none) P md ops n (fun C D listed a => Region.seqB md ops g n listed = true ∧ E C D a) f' C' D' (listed.setIfInBounds i true) a') a o)
  | .nil, t, f, C, D, listed, a, inv, hB, h => by
    simp only [permF, Bool.and_eq_true, beq_iff_eq] at hB
    obtain ⟨⟨rfl, rfl⟩, hs⟩ := hB
    exact ⟨fun _ => ⟨hs, h⟩, fun e => by cases e⟩
  | .q i r, t, f, C, D, listed, a, inv, hB, h => by
    simp only [permF, Bool.and_eq_true, decide_eq_true_eq, bne_iff_ne, ne_eq] at hB
    obtain ⟨⟨⟨⟨⟨rfl, hf⟩, hin⟩, hr⟩, hfr⟩, hB'⟩ := hB
    obtain ⟨f', rfl⟩ : ∃ f', f = f' + 1 := ⟨f - 1, by omega⟩
    rw [Nat.add_sub_cancel] at hB'
    refine ⟨fun _ => ?_, fun e => by cases e⟩
    have hr' : i ∈ Region.ready md ops listed := by simpa using hr
    have hsel' := Region.noSelect_spec hsel
    have hdone : ∀ C D listed a, (Region.seqB md ops g n listed = true ∧ E C D a) → ∀ j ∈ Region.ready md ops listed, n ≤ j := fun C D listed a hL => seqB_ready hL.1
    obtain ⟨o, ho, v, hy, hc⟩ := h
    exact wpG_first ho rfl hsel' hT hin hdone _ C D listed a inv (Region.free_spec ho hfr) hr' hy ((wpG_of_wpF hsel hT r true f' _ _ _ _ (inv.set hr' hin) hB' hc).1 rfl)
  | .alt i r s, t, f, C, D, listed, a, inv, hB, h => by
    simp only [permF, Bool.and_eq_true, decide_eq_true_eq, bne_iff_ne, ne_eq, Bool.or_eq_true, Bool.not_eq_true'] at hB
    obtain ⟨⟨⟨⟨hf, hin⟩, hid⟩, hB1⟩, hB2⟩ := hB
    obtain ⟨f', rfl⟩ : ∃ f', f = f' + 1 := ⟨f - 1, by omega⟩
    rw [Nat.add_sub_cancel] at hB1
    obtain ⟨⟨o, ho, hw, F, D', hF, hD', hl, hc⟩, h2⟩ := h
    have one : i ∈ Region.ready md ops listed → i < n ∧ ∃ o, ops[i]? = some o ∧ gRest P ops C D (fun C' D' a' => wpG (fun _ => none) P md ops n (fun C D listed a => Region.seqB md ops g n listed = true ∧ E C D a) f' C' D' (listed.setIfInBounds i true) a') a o :=
      fun hr => ⟨hin, o, ho, .inr ⟨hw, F, D', hF, hD', hl, fun v => (wpG_of_wpF hsel hT r true f' _ _ _ _ (inv.set hr hin) hB1 (hc v)).1 rfl⟩⟩
    have rest := (wpG_of_wpF hsel hT s false (f' + 1) C D listed a inv hB2 h2).2 rfl
    have all : ∀ j ∈ (Pl.alt i r s).ids, j ∈ Region.ready md ops listed → ∃ f'', f' + 1 = f'' + 1 ∧ j < n ∧ ∃ o, ops[j]? = some o ∧ gRest P ops C D (fun C' D' a' => wpG (fun _ => none) P md ops n (fun C D listed a => Region.seqB md ops g n listed = true ∧ E C D a) f'' C' D' (listed.setIfInBounds j true) a') a o := by
      intro j hj hr
      rcases List.mem_cons.1 hj with rfl | hj
      · exact ⟨f', rfl, one hr⟩
      · exact rest j hj hr
    refine ⟨fun ht => ?_, fun _ => all⟩
    have hready : Region.ready md ops listed = i :: s.ids := hid.resolve_left (by rw [ht]; decide)
    refine ⟨by rw [hready]; simp, fun j hj => ?_⟩
    have hj' : j ∈ (Pl.alt i r s).ids := by rw [hready] at hj; exact hj
    obtain ⟨f'', e, hlt, o', ho', hg⟩ := all j hj' hj
    obtain rfl : f' = f'' := by omega
    exact ⟨hlt, o', ho', hg⟩
  | .stop, t, f, C, D, listed, a, inv, hB, h => by
    simp only [permF, Bool.not_eq_true'] at hB
    subst hB
    exact ⟨fun e => (by cases e), fun _ i hi => by simp [Pl.ids] at hi⟩
def regF (md : Region.Mode) (ops : Array Oper) (n : Nat) (l : Pl) : Bool :=
  Region.noSelect ops && headB md ops n && decide (n ≤ ops.size) && permF md ops n (ops.size - n) l true n (Array.replicate ops.size false)
structure WpF (P : Program) (l : List Oper) (E : (World → Prop) → (World → Prop) → Act → Prop) (r : Pl) (C D : World → Prop) (a : Act) : Prop where
  out : wpF P l.toArray E r C D a
/-- ONE WALK SERVES EVERY ORDER. -/
theorem wp_region_fork {id : Nat} {Q : Exit → Act → World → Prop} {a : Act} {w : World} {l : List Oper} (n : Nat) (pl : Pl) (C D : World → Prop) (hm : P.follows .mixedOrders = true) (hB : regF .any l.toArray n pl = true)
    (hSC : Stab C) (hSD : Stab D) (hC : C w.drew) (hD : D w.drew) (h : WpF P l (fun C' D' a' => ∀ w', C' w' → D' w' → wpList P l.toArray Q (l.drop n) a' w') pl C D a) : (Code.region id l.toArray true).wp P Q a w := by
  simp only [regF, Bool.and_eq_true, decide_eq_true_eq] at hB
  obtain ⟨⟨⟨hsel, hh⟩, hn⟩, hp⟩ := hB
  have hdl : (l.drop n).length = l.toArray.size - n := by simp
  have inv0 : HeadInv .any l.toArray n (Array.replicate l.toArray.size false) :=
    ⟨by simp, fun j oj _ hl => (by rw [getD_replicate_false] at hl; cases hl), fun t _ ht => getD_in (by simpa using ht) (getD_replicate_false _ _)⟩
  have H := (wpG_of_wpF (md := .any) (g := l.toArray.size - n) hsel (headB_spec hh) pl true n C D _ a inv0 hp h.out).1 rfl
  refine wp_region_any hm ?_
  have := wpG_sound (Q := Q) (g := l.toArray.size - n) (fun C' D' listed a' hL w' hw' hd' => by
    have := wpAny_of_seq (md := .any) (Q' := Q) (l.drop n) n listed a' w' (fun j => by simp [List.getElem?_drop]) (by rw [hdl]; exact hL.1) (hL.2 w' hw' hd')
    rwa [hdl] at this) n C D _ a w.drew hSC hSD hC hD H
  rw [show n + (l.toArray.size - n) = l.toArray.size by omega] at this
  exact this
variable {ts : List Value} {df : List Deferred}
variable {E : (World → Prop) → (World → Prop) → Act → Prop} {r s : Pl} {C D : World → Prop} {a : Act} {i : Nat} {o : Oper} {l : List Oper}
theorem wf_nil (h : E C D a) : WpF P l E .nil C D a := ⟨h⟩
theorem wf_stop : WpF P l E .stop C D a := ⟨True.intro⟩
theorem wf_q (ho : nthO l i = some o) (hw : wantB l ts o.guard = true) (h : ∃ v, (∀ w, C w → quietRes P w v ((execOp (Act.eval { tmps := ts.toArray, defers := df }) o).run P w)) ∧
    ∀ K : Act → Prop, Shut (∀ a, WpF P l E r C D a → K a) → K (Act.put { tmps := ts.toArray, defers := df } o.dst v)) : WpF P l E (.q i r) C D { tmps := ts.toArray, defers := df } := by
  obtain ⟨v, hq, h⟩ := h
  have hw : Region.wanted o (yielded l.toArray ts.toArray) = true := wantB_spec hw
  have hk := (h (fun a => WpF P l E r C D a) (fun _ h => h)).out
  rw [← nthO_eq] at ho
  exact ⟨o, ho, v, .inl ⟨hw, hq⟩, hk⟩
theorem wf_skip (ho : nthO l i = some o) (hw : wantN l ts o.guard = true)
    (h : ∀ K : Act → Prop, Shut (∀ a, WpF P l E r C D a → K a) → K (Act.put { tmps := ts.toArray, defers := df } o.dst undef)) : WpF P l E (.q i r) C D { tmps := ts.toArray, defers := df } := by
  have hw : Region.wanted o (yielded l.toArray ts.toArray) = false := wantN_spec hw
  have hk := (h (fun a => WpF P l E r C D a) (fun _ h => h)).out
  rw [← nthO_eq] at ho
  exact ⟨o, ho, undef, .inr ⟨hw, rfl⟩, hk⟩
theorem wf_skipu (ho : nthO l i = some o) (hw : wantU l ts o.guard = true)
    (h : ∀ K : Act → Prop, Shut (∀ a, WpF P l E r C D a → K a) → K (Act.put { tmps := ts.toArray, defers := df } o.dst undef)) : WpF P l E (.q i r) C D { tmps := ts.toArray, defers := df } := by
  have hw : Region.wanted o (yielded l.toArray ts.toArray) = false := wantU_spec hw
  have hk := (h (fun a => WpF P l E r C D a) (fun _ h => h)).out
  rw [← nthO_eq] at ho
  exact ⟨o, ho, undef, .inr ⟨hw, rfl⟩, hk⟩
/-- A step, and the others that may come in its place. -/
theorem wf_step (F D' : Value → World → Prop) (hF : ∀ v, Stab (F v)) (hD : ∀ v, Stab (D' v)) (ho : nthO l i = some o) (hw : wantB l ts o.guard = true)
    (hl : ∀ w, C w → D w → stepRes P (stepR C F D') ((execOp (Act.eval { tmps := ts.toArray, defers := df }) o).run P w))
    (h : ∀ K : (World → Prop) → (World → Prop) → Act → Prop, Shut (∀ C D a, WpF P l E r C D a → K C D a) → ∀ v, K (fun w => C w ∧ F v w) (D' v) (Act.put { tmps := ts.toArray, defers := df } o.dst v))
    (h2 : WpF P l E s C D { tmps := ts.toArray, defers := df }) : WpF P l E (.alt i r s) C D { tmps := ts.toArray, defers := df } := by
  have hw : Region.wanted o (yielded l.toArray ts.toArray) = true := wantB_spec hw
  have hk := fun v => (h (fun C D a => WpF P l E r C D a) (fun _ _ _ h => h) v).out
  rw [← nthO_eq] at ho
  exact ⟨⟨o, ho, hw, F, D', hF, hD, hl, hk⟩, h2.out⟩
end
end Go.Proofs.Ytangcgfchalnaaa
