/- Parts of the proof: RegX RegW. -/
import Derived.Test.YtangcgfchalnaaaYam
import Derived.Test.YtangcgfchalnaaaYad
/- A region whose order is open, as in RegT: a step may be a store; a maker's block is known to be new. No condition on the program. -/
namespace Go.Proofs.Ytangcgfchalnaaa
open Go.RowKit
abbrev PhiX := Nat → Option (Value → World → Prop)
section
variable {B : Nat} {P : Program} {ops : Array Oper} {md : Region.Mode} {Φ : PhiX}
/-- What a step leaves: R of its value and the world. -/
def stepResX (P : Program) (R : Value → World → Prop) : Result Next → Prop
  | .ok (.value u) w' => R u w'
  | .ok (.enter f args) w' => Calls P f args w' (fun e w'' => ∃ v, e = .returned v ∧ R v w'')
  | .ok .skip w' => R undef w'
  | _ => False
/-- C stays, F comes to it for good; D is what holds for now, D' what holds then. -/
def stepInX (P : Program) (C D : World → Prop) (o : Oper) (a : Act) (F D' : Value → World → Prop) : Prop :=
  ∀ w, C w → D w → stepResX P (fun v w' => C w' ∧ F v w' ∧ D' v w') ((execOp a.eval o).run P w)
/-- In every world the operation makes something of which F is so for good. -/
def flResX (w : World) (F : Value → World → Prop) : Result Next → Prop
  | .ok (.value u) w' => Below w.heap.size w w' ∧ F u w'
  | _ => False
def FLX (B : Nat) (P : Program) (o : Oper) (a : Act) (F : Value → World → Prop) : Prop := ∀ w, B ≤ w.heap.size → flResX w F ((execOp a.eval o).run P w)
def phiOfX : List (Nat × (Value → World → Prop)) → PhiX
  | [], _ => none
  | (j, F) :: r, i => if i = j then some F else phiOfX r i
theorem phiOf_isSomeX : ∀ (fs : List (Nat × (Value → World → Prop))) (i : Nat), (phiOfX fs i).isSome = (fs.map (·.1)).contains i
  | [], _ => rfl
  | (j, F) :: r, i => by
    unfold phiOfX
    by_cases h : i = j
    · simp [h]
    · rw [if_neg h, phiOf_isSomeX r i]; simp [h]
abbrev Cont2X := (World → Prop) → (World → Prop) → Act → Prop
def gMakeX (B : Nat) (P : Program) (ops : Array Oper) (C D : World → Prop) (K : Cont2X) (a : Act) (o : Oper) (F : Value → World → Prop) : Prop :=
  Region.wanted o (yielded ops a.tmps) = true ∧ (∀ v, Stab (F v)) ∧ FLX B P o a F ∧ ∀ v, K (fun w => C w ∧ F v w) D (a.put o.dst v)
def gRestX (P : Program) (ops : Array Oper) (C D : World → Prop) (K : Cont2X) (a : Act) (o : Oper) : Prop :=
  (∃ v, YQ P ops o v C a ∧ K C D (a.put o.dst v)) ∨
  (Region.wanted o (yielded ops a.tmps) = true ∧ ∃ F D' : Value → World → Prop, (∀ v, Stab (F v)) ∧ (∀ v, Stab (D' v)) ∧ stepInX P C D o a F D' ∧ ∀ v, K (fun w => C w ∧ F v w) (D' v) (a.put o.dst v))
def gOperX (B : Nat) (P : Program) (ops : Array Oper) (φ : Option (Value → World → Prop)) (C D : World → Prop) (K : Cont2X) (a : Act) (o : Oper) : Prop :=
  match φ with
  | some F => gMakeX B P ops C D K a o F
  | none => gRestX P ops C D K a o
def wpGX (B : Nat) (Φ : PhiX) (P : Program) (md : Region.Mode) (ops : Array Oper) (n : Nat) (L : (World → Prop) → (World → Prop) → Array Bool → Act → Prop) : Nat → (World → Prop) → (World → Prop) → Array Bool → Act → Prop
  | 0, C, D, listed, a => L C D listed a
  | f + 1, C, D, listed, a =>
    Region.ready md ops listed ≠ [] ∧ ∀ i ∈ Region.ready md ops listed, i < n ∧ ∃ o, ops[i]? = some o ∧ gOperX B P ops (Φ i) C D (fun C' D' a' => wpGX B Φ P md ops n L f C' D' (listed.setIfInBounds i true) a') a o

theorem wpG_soundX {n g : Nat} {L : (World → Prop) → (World → Prop) → Array Bool → Act → Prop} {Q : Exit → Act → World → Prop} (hL : ∀ C D listed a, L C D listed a → ∀ w, C w → D w → wpAny P md ops Q g listed a w) :
    ∀ (f : Nat) (C D : World → Prop) (listed : Array Bool) (a : Act) (w : World), (∀ w, C w → B ≤ w.heap.size) → Stab C → Stab D → C w → D w → wpGX B Φ P md ops n L f C D listed a → wpAny P md ops Q (f + g) listed a w
  | 0, _, _, _, _, w, _, _, _, hC, hD, h => by rw [Nat.zero_add]; exact hL _ _ _ _ h w hC hD
  | f + 1, C, D, listed, a, w, hBC, hSC, hSD, hC, hD, h => by
    rw [show f + 1 + g = (f + g) + 1 by omega]
    refine ⟨fun h0 => absurd h0 h.1, fun i hi => ?_⟩
    obtain ⟨o, ho, h2⟩ := (h.2 i hi).2
    unfold wpOp
    simp only [ho]
    unfold gOperX at h2
    split at h2
    · rename_i F _
      obtain ⟨hw, hF, hl, hk⟩ := h2
      rw [if_pos hw]
      refine .inl ?_
      unfold Oper.wp
      have h3 := hl w (hBC w hC)
      generalize (execOp a.eval o).run P w = r at *
      cases r with
      | ok nx w' =>
        cases nx <;> simp only [flResX] at h3 <;> simp only [Oper.upon]
        case value u => exact wpG_soundX hL f _ _ _ _ _ (fun w h => hBC w h.1) (hSC.and (hF u)) hSD ⟨hSC _ _ hC h3.1, h3.2⟩ (hSD _ _ hD h3.1) (hk u)
      | halt x w' => simp only [flResX] at h3
    rcases h2 with ⟨v, ⟨hw, hq⟩ | ⟨hw, rfl⟩, hk⟩ | ⟨hw, F, D', hF, hD', hl, hk⟩
    · rw [if_pos hw]
      refine .inl ?_
      unfold Oper.wp
      have h3 := hq w hC
      generalize (execOp a.eval o).run P w = r at *
      cases r with
      | ok nx w' =>
        cases nx <;> simp only [quietRes] at h3 <;> simp only [Oper.upon]
        case value u =>
          obtain ⟨e1, e2⟩ := h3
          rw [e1, e2]
          exact wpG_soundX hL f _ _ _ _ _ hBC hSC hSD hC hD hk
        case skip =>
          obtain ⟨e1, e2⟩ := h3
          rw [e1, ← e2]
          exact wpG_soundX hL f _ _ _ _ _ hBC hSC hSD hC hD hk
        case enter fn args =>
          obtain ⟨e1, hc⟩ := h3
          rw [e1]
          exact hc.mono fun e w'' ⟨he, hb⟩ => by
            subst he
            exact wpG_soundX hL f _ _ _ _ _ hBC hSC hSD (hSC _ _ hC hb) (hSD _ _ hD hb) hk
      | halt x w' => simp only [quietRes] at h3
    · rw [if_neg (by rw [hw]; decide)]
      exact wpG_soundX hL f _ _ _ _ _ hBC hSC hSD hC hD hk
    · rw [if_pos hw]
      refine .inl ?_
      unfold Oper.wp
      have h3 := hl w hC hD
      generalize (execOp a.eval o).run P w = r at *
      cases r with
      | ok nx w' =>
        cases nx <;> simp only [stepResX] at h3 <;> simp only [Oper.upon]
        case value u => exact wpG_soundX hL f _ _ _ _ _ (fun w h => hBC w h.1) (hSC.and (hF u)) (hD' u) ⟨h3.1, h3.2.1⟩ h3.2.2 (hk u)
        case enter fn args =>
          exact h3.mono fun e w'' ⟨v, he, hp⟩ => by
            subst he
            exact wpG_soundX hL f _ _ _ _ _ (fun w h => hBC w h.1) (hSC.and (hF v)) (hD' v) ⟨hp.1, hp.2.1⟩ hp.2.2 (hk v)
        case skip => exact wpG_soundX hL f _ _ _ _ _ (fun w h => hBC w h.1) (hSC.and (hF undef)) (hD' undef) ⟨h3.1, h3.2.1⟩ h3.2.2 (hk undef)
      | halt x w' => simp only [stepResX] at h3

/-- An operation of one value may be taken first. -/
theorem wpG_firstX {n i : Nat} {oi : Oper} {v : Value} {L : (World → Prop) → (World → Prop) → Array Bool → Act → Prop} (hi : ops[i]? = some oi) (hφ : Φ i = none) (hsel : ∀ (j : Nat) (o : Oper) cs b, ops[j]? = some o → o.op ≠ .select cs b)
    (hT : HeadOK md ops n) (hin : i < n) (hdone : ∀ C D listed a, L C D listed a → ∀ j ∈ Region.ready md ops listed, n ≤ j) :
    ∀ (f : Nat) (C D : World → Prop) (listed : Array Bool) (a : Act), HeadInv md ops n listed →
      (∀ j oj, ops[j]? = some oj → j ≠ i → listed.getD j true = false → (∀ e ∈ oj.after, Region.binds md e = true → e.on ≠ i) → oi.apart ops oj = true) →
      i ∈ Region.ready md ops listed → YQ P ops oi v C a →
      wpGX B Φ P md ops n L f C D (listed.setIfInBounds i true) (a.put oi.dst v) → wpGX B Φ P md ops n L (f + 1) C D listed a := by
  intro f
  induction f with
  | zero =>
    intro C D listed a inv _ hr hy H
    have hun := (mem_ready.1 hr).1
    refine ⟨fun h => (by rw [h] at hr; cases hr), fun j hj => ?_⟩
    have hjn := hT listed inv i hin hun j hj
    refine ⟨hjn, ?_⟩
    by_cases hji : j = i
    · subst hji; refine ⟨oi, hi, ?_⟩; rw [hφ]; exact .inl ⟨v, hy, H⟩
    · have := hdone _ _ _ _ H j (ready_mono hj hji)
      omega
  | succ f ih =>
    intro C D listed a inv hfree hr hy H
    have hun := (mem_ready.1 hr).1
    refine ⟨fun h => (by rw [h] at hr; cases hr), fun j hj => ?_⟩
    have hjn := hT listed inv i hin hun j hj
    refine ⟨hjn, ?_⟩
    by_cases hji : j = i
    · subst hji; refine ⟨oi, hi, ?_⟩; rw [hφ]; exact .inl ⟨v, hy, H⟩
    · obtain ⟨oj, hoj, h1⟩ := (H.2 j (ready_mono hj hji)).2
      obtain ⟨hjun, oj', hoj', hall⟩ := mem_ready.1 hj
      obtain rfl : oj = oj' := Option.some.inj (hoj.symm.trans hoj')
      have hap := hfree j oj hoj hji hjun (not_on hun hall)
      obtain ⟨g1, g2, g3⟩ := Oper.apart_spec hap
      have hsj := fun cs b => hsel j oj cs b hoj
      have hE : execOp (a.put oi.dst v).eval oj = execOp a.eval oj := execOp_put oj hsj a oi.dst v g1
      have hW := wanted_put oj a oi.dst v g1
      refine ⟨oj, hoj, ?_⟩
      unfold gOperX at h1 ⊢
      split at h1
      · obtain ⟨hw, hF, hl, hk⟩ := h1
        refine ⟨by rw [hW] at hw; exact hw, hF, ?_, fun u => ?_⟩
        · unfold FLX at *
          rw [hE] at hl
          exact hl
        · refine ih _ _ _ _ (inv.set hj hjn) (free_set hfree hjun) (ready_mono hr (Ne.symm hji)) (YQ.keep hap (fun cs b => hsel i oi cs b hi) _ _ _ _ (fun w hw => hw.1) hy) ?_
          rw [Array.setIfInBounds_comm _ _ hji, ← Act.put_comm a v u g2]
          exact hk u
      rcases h1 with ⟨u, hyj, hk⟩ | ⟨hw, F, D', hF, hD', hl, hk⟩
      · refine .inl ⟨u, ?_, ?_⟩
        · unfold YQ quietIn at *
          rw [hE, hW] at hyj
          exact hyj
        · refine ih _ _ _ _ (inv.set hj hjn) (free_set hfree hjun) (ready_mono hr (Ne.symm hji)) (YQ.keep hap (fun cs b => hsel i oi cs b hi) _ _ _ _ (fun w hw => hw) hy) ?_
          rw [Array.setIfInBounds_comm _ _ hji, ← Act.put_comm a v u g2]
          exact hk
      · refine .inr ⟨by rw [hW] at hw; exact hw, F, D', hF, hD', ?_, fun u => ?_⟩
        · unfold stepInX at *
          rw [hE] at hl
          exact hl
        · refine ih _ _ _ _ (inv.set hj hjn) (free_set hfree hjun) (ready_mono hr (Ne.symm hji)) (YQ.keep hap (fun cs b => hsel i oi cs b hi) _ _ _ _ (fun w hw => hw.1) hy) ?_
          rw [Array.setIfInBounds_comm _ _ hji, ← Act.put_comm a v u g2]
          exact hk u

/-- Nobody but i and makers may come up till i has come. -/
def BlocksFX (md : Region.Mode) (ops : Array Oper) (Φ : PhiX) (i : Nat) (listed : Array Bool) : Prop :=
  ∀ j oj, ops[j]? = some oj → j ≠ i → listed.getD j true = false → Φ j = none →
    ∃ e ∈ oj.after, Region.binds md e = true ∧ listed.getD e.on false = false ∧ (e.on = i ∨ Φ e.on = none)
theorem BlocksFX.maker {i j : Nat} {oj : Oper} {listed : Array Bool} (h : BlocksFX md ops Φ i listed) (hj : j ∈ Region.ready md ops listed) (hoj : ops[j]? = some oj) (hji : j ≠ i) : ∃ F, Φ j = some F := by
  cases ha : Φ j with
  | some F => exact ⟨F, rfl⟩
  | none =>
    obtain ⟨hjun, o', ho', hall⟩ := mem_ready.1 hj
    obtain rfl : oj = o' := Option.some.inj (hoj.symm.trans ho')
    obtain ⟨e, he, hb, hl, _⟩ := h j oj hoj hji hjun ha
    rw [hall e he hb] at hl
    cases hl
theorem BlocksFX.set {i j : Nat} {F : Value → World → Prop} {listed : Array Bool} (h : BlocksFX md ops Φ i listed) (hji : j ≠ i) (ht : Φ j = some F) : BlocksFX md ops Φ i (listed.setIfInBounds j true) := fun k ok hok hki hun ha => by
  have hjk : j ≠ k := fun e => by subst e; rw [ha] at ht; cases ht
  rw [getD_set_ne true hjk] at hun
  obtain ⟨e, he, hb, hl, hor⟩ := h k ok hok hki hun ha
  refine ⟨e, he, hb, ?_, hor⟩
  rw [getD_set_ne false ?_]
  · exact hl
  · intro hje
    rcases hor with h1 | h1
    · exact hji (hje.trans h1)
    · rw [hje, h1] at ht; cases ht
/-- A maker may be taken first. -/
theorem wpG_floatX {n i : Nat} {oi : Oper} {F : Value → World → Prop} {L : (World → Prop) → (World → Prop) → Array Bool → Act → Prop} (hi : ops[i]? = some oi) (hφ : Φ i = some F) (hF : ∀ v, Stab (F v)) (hsel : ∀ (j : Nat) (o : Oper) cs b, ops[j]? = some o → o.op ≠ .select cs b)
    (hT : HeadOK md ops n) (hin : i < n) (hdone : ∀ C D listed a, L C D listed a → ∀ j ∈ Region.ready md ops listed, n ≤ j) :
    ∀ (f : Nat) (C D : World → Prop) (listed : Array Bool) (a : Act), HeadInv md ops n listed → BlocksFX md ops Φ i listed →
      (∀ j oj, ops[j]? = some oj → j ≠ i → listed.getD j true = false → (∀ e ∈ oj.after, Region.binds md e = true → e.on ≠ i) → oi.apart ops oj = true) →
      i ∈ Region.ready md ops listed → Region.wanted oi (yielded ops a.tmps) = true → FLX B P oi a F →
      (∀ v, wpGX B Φ P md ops n L f (fun w => C w ∧ F v w) D (listed.setIfInBounds i true) (a.put oi.dst v)) → wpGX B Φ P md ops n L (f + 1) C D listed a := by
  intro f
  induction f with
  | zero =>
    intro C D listed a inv _ _ hr hw hl H
    have hun := (mem_ready.1 hr).1
    refine ⟨fun h => (by rw [h] at hr; cases hr), fun j hj => ?_⟩
    have hjn := hT listed inv i hin hun j hj
    refine ⟨hjn, ?_⟩
    by_cases hji : j = i
    · subst hji; refine ⟨oi, hi, ?_⟩; rw [hφ]; exact ⟨hw, hF, hl, H⟩
    · have := hdone _ _ _ _ (H undef) j (ready_mono hj hji)
      omega
  | succ f ih =>
    intro C D listed a inv hbl hfree hr hw hl H
    have hun := (mem_ready.1 hr).1
    refine ⟨fun h => (by rw [h] at hr; cases hr), fun j hj => ?_⟩
    have hjn := hT listed inv i hin hun j hj
    refine ⟨hjn, ?_⟩
    by_cases hji : j = i
    · subst hji; refine ⟨oi, hi, ?_⟩; rw [hφ]; exact ⟨hw, hF, hl, H⟩
    · obtain ⟨hjun, oj, hoj, hall⟩ := mem_ready.1 hj
      obtain ⟨Fj, hφj⟩ := hbl.maker hj hoj hji
      have hap := hfree j oj hoj hji hjun (not_on hun hall)
      obtain ⟨g1, g2, g3⟩ := Oper.apart_spec hap
      have hsj := fun cs b => hsel j oj cs b hoj
      have hc : ∀ v, gMakeX B P ops (fun w => C w ∧ F v w) D (fun C' D' a' => wpGX B Φ P md ops n L f C' D' ((listed.setIfInBounds i true).setIfInBounds j true) a') (a.put oi.dst v) oj Fj := fun v => by
        obtain ⟨o', ho', h1⟩ := ((H v).2 j (ready_mono hj hji)).2
        obtain rfl : oj = o' := Option.some.inj (hoj.symm.trans ho')
        rw [hφj] at h1
        exact h1
      refine ⟨oj, hoj, ?_⟩
      rw [hφj]
      obtain ⟨w0, s0, l0, _⟩ := hc undef
      refine ⟨by rw [wanted_put oj a oi.dst undef g1] at w0; exact w0, s0, ?_, fun u => ?_⟩
      · unfold FLX at *
        rw [execOp_put oj hsj a oi.dst undef g1] at l0
        exact l0
      · refine ih _ _ _ _ (inv.set hj hjn) (hbl.set hji hφj) (free_set hfree hjun) (ready_mono hr (Ne.symm hji)) (by rw [wanted_put oi a oj.dst u g3]; exact hw) (by unfold FLX at *; rw [execOp_put oi (fun cs b => hsel i oi cs b hi) a oj.dst u g3]; exact hl) (fun v => ?_)
        rw [Array.setIfInBounds_comm _ _ hji, ← Act.put_comm a v u g2, and_swap]
        exact (hc v).2.2.2 u

def blocksFBX (md : Region.Mode) (ops : Array Oper) (fs : List Nat) (i : Nat) (listed : Array Bool) : Bool :=
  (List.range ops.size).all fun j => j == i || listed.getD j true || fs.contains j || match ops[j]? with
    | some oj => oj.after.any fun e => Region.binds md e && !listed.getD e.on false && (e.on == i || !fs.contains e.on)
    | none => true
theorem blocksFB_specX {fs : List Nat} {i : Nat} {listed : Array Bool} (hfs : ∀ i, (Φ i).isSome = fs.contains i) (h : blocksFBX md ops fs i listed = true) : BlocksFX md ops Φ i listed := fun j oj hoj hji hun ha => by
  have hlt : j < ops.size := (Array.getElem?_eq_some_iff.1 hoj).1
  have hj : fs.contains j = false := by rw [← hfs, ha]; rfl
  simp only [blocksFBX, List.all_eq_true, List.mem_range] at h
  have h1 := h j hlt
  simp only [hoj, Bool.or_eq_true, beq_iff_eq, hji, false_or, hun, Bool.false_eq_true, hj] at h1
  obtain ⟨e, he, hb⟩ := Array.any_eq_true'.1 h1
  simp only [Bool.and_eq_true, Bool.not_eq_true', Bool.or_eq_true, beq_iff_eq] at hb
  refine ⟨e, he, hb.1.1, hb.1.2, hb.2.imp id fun h2 => ?_⟩
  have := hfs e.on
  rw [h2] at this
  cases hq : Φ e.on with
  | none => rfl
  | some F => rw [hq] at this; cases this

/-- k: a step that stands alone, or a maker. -/
def permTX (md : Region.Mode) (ops : Array Oper) (fs : List Nat) (n g : Nat) : List (Nat × Bool) → Array Bool → Bool
  | [], listed => Region.seqB md ops g n listed
  | (i, k) :: r, listed => decide (i < n) && (if k then (if fs.contains i then (Region.ready md ops listed).contains i && Region.free md ops listed i && blocksFBX md ops fs i listed else decide (Region.ready md ops listed = [i])) else !fs.contains i && ((Region.ready md ops listed).contains i && Region.free md ops listed i)) && permTX md ops fs n g r (listed.setIfInBounds i true)
def condTX (md : Region.Mode) (ops : Array Oper) (fs : List Nat) (n : Nat) (listed : Array Bool) (i : Nat) (k : Bool) : Bool :=
  decide (i < n) && (if k then (if fs.contains i then (Region.ready md ops listed).contains i && Region.free md ops listed i && blocksFBX md ops fs i listed else decide (Region.ready md ops listed = [i])) else !fs.contains i && ((Region.ready md ops listed).contains i && Region.free md ops listed i))
/-- The check, a step at a time (for a region of many operations: each step a theorem of its own). -/
theorem permT_consX {fs : List Nat} {n g i : Nat} {k : Bool} {r : List (Nat × Bool)} {listed listed' : Array Bool} (hc : condTX md ops fs n listed i k = true) (hl : listed.setIfInBounds i true = listed') (hr : permTX md ops fs n g r listed' = true) :
    permTX md ops fs n g ((i, k) :: r) listed = true := by
  subst hl
  unfold permTX
  unfold condTX at hc
  rw [hr, Bool.and_true]
  exact hc
/-- A region's operations, found in a function's text. -/
def regOfX (id : Nat) : Code → Option (List Oper)
  | .region i ops _ => if i = id then some ops.toList else none
  | .seq a b => match regOfX id a with | some l => some l | none => regOfX id b
  | .cond _ a b => match regOfX id a with | some l => some l | none => regOfX id b
  | .block _ c => regOfX id c
  | .loop c => regOfX id c
  | .scope c => regOfX id c
  | _ => none
def wpTX (B : Nat) (Φ : PhiX) (P : Program) (ops : Array Oper) (E : (World → Prop) → (World → Prop) → Act → Prop) : List (Nat × Bool) → (World → Prop) → (World → Prop) → Act → Prop
  | [], C, D, a => E C D a
  | (i, k) :: r, C, D, a => match ops[i]? with
    | none => False
    | some o => match k, Φ i with
      | true, some F => Region.wanted o (yielded ops a.tmps) = true ∧ (∀ v, Stab (F v)) ∧ FLX B P o a F ∧ ∀ v, wpTX B Φ P ops E r (fun w => C w ∧ F v w) D (a.put o.dst v)
      | true, none => Region.wanted o (yielded ops a.tmps) = true ∧ ∃ F D' : Value → World → Prop, (∀ v, Stab (F v)) ∧ (∀ v, Stab (D' v)) ∧ stepInX P C D o a F D' ∧ ∀ v, wpTX B Φ P ops E r (fun w => C w ∧ F v w) (D' v) (a.put o.dst v)
      | false, _ => ∃ v, YQ P ops o v C a ∧ wpTX B Φ P ops E r C D (a.put o.dst v)
theorem wpG_of_wpTX {n g : Nat} {E : (World → Prop) → (World → Prop) → Act → Prop} {fs : List Nat} (hfs : ∀ i, (Φ i).isSome = fs.contains i) (hsel : Region.noSelect ops = true) (hT : HeadOK md ops n) :
    ∀ (l : List (Nat × Bool)) (C D : World → Prop) (listed : Array Bool) (a : Act), HeadInv md ops n listed → permTX md ops fs n g l listed = true → wpTX B Φ P ops E l C D a →
      wpGX B Φ P md ops n (fun C D listed a => Region.seqB md ops g n listed = true ∧ E C D a) l.length C D listed a
  | [], C, D, listed, a, _, hB, h => ⟨hB, h⟩
  | (i, k) :: r, C, D, listed, a, inv, hB, h => by
    simp only [permTX, Bool.and_eq_true, decide_eq_true_eq] at hB
    obtain ⟨⟨hin, hk⟩, hB'⟩ := hB
    have hsel' := Region.noSelect_spec hsel
    have hdone : ∀ C D listed a, (Region.seqB md ops g n listed = true ∧ E C D a) → ∀ j ∈ Region.ready md ops listed, n ≤ j := fun C D listed a hL => seqB_ready hL.1
    unfold wpTX at h
    split at h
    · exact h.elim
    · rename_i o ho
      cases k with
      | true =>
        simp only [if_true] at hk
        cases hφ : Φ i with
        | some F =>
          have hyc : fs.contains i = true := by rw [← hfs, hφ]; rfl
          rw [if_pos hyc] at hk
          simp only [Bool.and_eq_true] at hk
          have hr : i ∈ Region.ready md ops listed := by simpa using hk.1.1
          simp only [hφ] at h
          obtain ⟨hw, hF, hl, hc⟩ := h
          exact wpG_floatX ho hφ hF hsel' hT hin hdone _ C D listed a inv (blocksFB_specX hfs hk.2) (Region.free_spec ho hk.1.2) hr hw hl (fun v => wpG_of_wpTX hfs hsel hT r _ _ _ _ (inv.set hr hin) hB' (hc v))
        | none =>
          have hnc : ¬ fs.contains i = true := by rw [← hfs, hφ]; decide
          rw [if_neg hnc, decide_eq_true_eq] at hk
          have hr : i ∈ Region.ready md ops listed := by rw [hk]; exact List.mem_cons_self
          simp only [hφ] at h
          obtain ⟨hw, F, D', hF, hD', hl, hc⟩ := h
          refine ⟨by rw [hk]; simp, fun j hj => ?_⟩
          rw [hk] at hj
          obtain rfl : j = i := by simpa using hj
          refine ⟨hin, o, ho, ?_⟩
          rw [hφ]
          exact .inr ⟨hw, F, D', hF, hD', hl, fun v => wpG_of_wpTX hfs hsel hT r _ _ _ _ (inv.set hr hin) hB' (hc v)⟩
      | false =>
        simp only [Bool.false_eq_true, if_false, Bool.and_eq_true, Bool.not_eq_true'] at hk
        have hφ : Φ i = none := by
          have := hfs i
          rw [hk.1] at this
          cases hq : Φ i with
          | none => rfl
          | some F => rw [hq] at this; cases this
        have hr : i ∈ Region.ready md ops listed := by simpa using hk.2.1
        obtain ⟨v, hy, hc⟩ := h
        exact wpG_firstX ho hφ hsel' hT hin hdone _ C D listed a inv (Region.free_spec ho hk.2.2) hr hy (wpG_of_wpTX hfs hsel hT r _ _ _ _ (inv.set hr hin) hB' hc)
def regTX (md : Region.Mode) (ops : Array Oper) (fs : List Nat) (n : Nat) (l : List (Nat × Bool)) : Bool :=
  Region.noSelect ops && headB md ops n && decide (l.length = n) && decide (n ≤ ops.size) && permTX md ops fs n (ops.size - n) l (Array.replicate ops.size false)
structure WpTX (B : Nat) (Φ : PhiX) (P : Program) (l : List Oper) (E : (World → Prop) → (World → Prop) → Act → Prop) (r : List (Nat × Bool)) (C D : World → Prop) (a : Act) : Prop where
  out : wpTX B Φ P l.toArray E r C D a
/-- ONE WALK SERVES EVERY ORDER. -/
theorem wp_region_twoX {id : Nat} {Q : Exit → Act → World → Prop} {a : Act} {w : World} {l : List Oper} (n : Nat) (pm : List (Nat × Bool)) (fl : List (Nat × (Value → World → Prop))) (fs : List Nat) (hfl : fs = fl.map (·.1)) (C D : World → Prop) (hm : P.follows .mixedOrders = true) (hB : regTX .any l.toArray fs n pm = true)
    (hBC : ∀ w, C w → B ≤ w.heap.size) (hSC : Stab C) (hSD : Stab D) (hC : C w.drew) (hD : D w.drew) (h : WpTX B (phiOfX fl) P l (fun C' D' a' => ∀ w', C' w' → D' w' → wpList P l.toArray Q (l.drop n) a' w') pm C D a) : (Code.region id l.toArray true).wp P Q a w := by
  simp only [regTX, Bool.and_eq_true, decide_eq_true_eq] at hB
  obtain ⟨⟨⟨⟨hsel, hh⟩, hln⟩, hn⟩, hp⟩ := hB
  have hdl : (l.drop n).length = l.toArray.size - n := by simp
  have inv0 : HeadInv .any l.toArray n (Array.replicate l.toArray.size false) :=
    ⟨by simp, fun j oj _ hl => (by rw [getD_replicate_false] at hl; cases hl), fun t _ ht => getD_in (by simpa using ht) (getD_replicate_false _ _)⟩
  have H := wpG_of_wpTX (md := .any) (g := l.toArray.size - n) (fun i => by rw [hfl]; exact phiOf_isSomeX fl i) hsel (headB_spec hh) pm C D _ a inv0 hp h.out
  refine wp_region_any hm ?_
  have := wpG_soundX (Q := Q) (g := l.toArray.size - n) (fun C' D' listed a' hL w' hw' hd' => by
    have := wpAny_of_seq (md := .any) (Q' := Q) (l.drop n) n listed a' w' (fun j => by simp [List.getElem?_drop]) (by rw [hdl]; exact hL.1) (hL.2 w' hw' hd')
    rwa [hdl] at this) pm.length C D _ a w.drew hBC hSC hSD hC hD H
  rw [hln, show n + (l.toArray.size - n) = l.toArray.size by omega] at this
  exact this

/-- The same, the check made ahead. -/
theorem wp_region_two'X {id : Nat} {Q : Exit → Act → World → Prop} {a : Act} {w : World} {l : List Oper} (l0 : List Oper) (hl : l = l0) (n : Nat) (pm : List (Nat × Bool)) (fl : List (Nat × (Value → World → Prop))) (fs : List Nat) (hfl : fs = fl.map (·.1)) (C D : World → Prop) (hm : P.follows .mixedOrders = true) (hB : regTX .any l0.toArray fs n pm = true)
    (hBC : ∀ w, C w → B ≤ w.heap.size) (hSC : Stab C) (hSD : Stab D) (hC : C w.drew) (hD : D w.drew) (h : WpTX B (phiOfX fl) P l (fun C' D' a' => ∀ w', C' w' → D' w' → wpList P l.toArray Q (l.drop n) a' w') pm C D a) : (Code.region id l.toArray true).wp P Q a w :=
  wp_region_twoX n pm fl fs hfl C D hm (by rw [hl]; exact hB) hBC hSC hSD hC hD h
theorem regT_ofX {l0 : List Oper} {fs : List Nat} {n : Nat} {pm : List (Nat × Bool)} (h1 : (Region.noSelect l0.toArray && headB .any l0.toArray n && decide (pm.length = n) && decide (n ≤ l0.toArray.size)) = true) (h2 : permTX .any l0.toArray fs n (l0.toArray.size - n) pm (Array.replicate l0.toArray.size false) = true) : regTX .any l0.toArray fs n pm = true := by
  unfold regTX; rw [h1, h2]; rfl
variable {ts : List Value} {df : List Deferred}
variable {E : (World → Prop) → (World → Prop) → Act → Prop} {r : List (Nat × Bool)} {C D : World → Prop} {a : Act} {i : Nat} {o : Oper} {l : List Oper}
theorem wt_nilX (h : E C D a) : WpTX B Φ P l E [] C D a := ⟨h⟩
theorem wt_qX (ho : nthO l i = some o) (hw : wantB l ts o.guard = true) (h : ∃ v, (∀ w, C w → quietRes P w v ((execOp (Act.eval { tmps := ts.toArray, defers := df }) o).run P w)) ∧
    ∀ K : Act → Prop, Shut (∀ a, WpTX B Φ P l E r C D a → K a) → K (Act.put { tmps := ts.toArray, defers := df } o.dst v)) : WpTX B Φ P l E ((i, false) :: r) C D { tmps := ts.toArray, defers := df } := by
  obtain ⟨v, hq, h⟩ := h
  have hw : Region.wanted o (yielded l.toArray ts.toArray) = true := wantB_spec hw
  have hk := (h (fun a => WpTX B Φ P l E r C D a) (fun _ h => h)).out
  rw [← nthO_eq] at ho
  refine ⟨?_⟩
  unfold wpTX
  simp only [ho]
  exact ⟨v, .inl ⟨hw, hq⟩, hk⟩
theorem wt_skipX (ho : nthO l i = some o) (hw : wantN l ts o.guard = true)
    (h : ∀ K : Act → Prop, Shut (∀ a, WpTX B Φ P l E r C D a → K a) → K (Act.put { tmps := ts.toArray, defers := df } o.dst undef)) : WpTX B Φ P l E ((i, false) :: r) C D { tmps := ts.toArray, defers := df } := by
  have hw : Region.wanted o (yielded l.toArray ts.toArray) = false := wantN_spec hw
  have hk := (h (fun a => WpTX B Φ P l E r C D a) (fun _ h => h)).out
  rw [← nthO_eq] at ho
  refine ⟨?_⟩
  unfold wpTX
  simp only [ho]
  exact ⟨undef, .inr ⟨hw, rfl⟩, hk⟩
theorem wt_makeX (F : Value → World → Prop) (hφ : Φ i = some F) (hF : ∀ v, Stab (F v)) (ho : nthO l i = some o) (hw : wantB l ts o.guard = true)
    (hl : ∀ w, B ≤ w.heap.size → flResX w F ((execOp (Act.eval { tmps := ts.toArray, defers := df }) o).run P w))
    (h : ∀ K : (World → Prop) → Act → Prop, Shut (∀ C a, WpTX B Φ P l E r C D a → K C a) → ∀ v, K (fun w => C w ∧ F v w) (Act.put { tmps := ts.toArray, defers := df } o.dst v)) :
    WpTX B Φ P l E ((i, true) :: r) C D { tmps := ts.toArray, defers := df } := by
  have hw : Region.wanted o (yielded l.toArray ts.toArray) = true := wantB_spec hw
  have hk := fun v => (h (fun C a => WpTX B Φ P l E r C D a) (fun _ _ h => h) v).out
  rw [← nthO_eq] at ho
  refine ⟨?_⟩
  unfold wpTX
  simp only [ho, hφ]
  exact ⟨hw, hF, hl, hk⟩
def stepRX (C : World → Prop) (F D : Value → World → Prop) (v : Value) (w : World) : Prop := C w ∧ F v w ∧ D v w
theorem wt_stepX (hφ : Φ i = none) (F D' : Value → World → Prop) (hF : ∀ v, Stab (F v)) (hD : ∀ v, Stab (D' v)) (ho : nthO l i = some o) (hw : wantB l ts o.guard = true)
    (hl : ∀ w, C w → D w → stepResX P (stepRX C F D') ((execOp (Act.eval { tmps := ts.toArray, defers := df }) o).run P w))
    (h : ∀ K : (World → Prop) → (World → Prop) → Act → Prop, Shut (∀ C D a, WpTX B Φ P l E r C D a → K C D a) → ∀ v, K (fun w => C w ∧ F v w) (D' v) (Act.put { tmps := ts.toArray, defers := df } o.dst v)) :
    WpTX B Φ P l E ((i, true) :: r) C D { tmps := ts.toArray, defers := df } := by
  have hw : Region.wanted o (yielded l.toArray ts.toArray) = true := wantB_spec hw
  have hk := fun v => (h (fun C D a => WpTX B Φ P l E r C D a) (fun _ _ _ h => h) v).out
  rw [← nthO_eq] at ho
  refine ⟨?_⟩
  unfold wpTX
  simp only [ho, hφ]
  exact ⟨hw, F, D', hF, hD, hl, hk⟩
theorem st_enterX {R : Value → World → Prop} {w : World} {f : FuncId} {args : Array Value} (h : Calls P f args w (fun e w'' => ∃ v, e = .returned v ∧ R v w'')) : stepResX P R (.ok (.enter f args) w) := h
end
end Go.Proofs.Ytangcgfchalnaaa

/- A region walked along a tree of orders: a step of whose value a fact is known that hangs on no world. No program. -/
namespace Go.Proofs.Ytangcgfchalnaaa
open Go.RowKit
def Pl.okv (ops : Array Oper) : Pl → Bool
  | .nil => true
  | .q i r => decide (i < ops.size) && r.okv ops
  | .alt i r s => (match ops[i]? with | some o => o.guard.isNone | none => false) && r.okv ops && s.okv ops
  | .stop => true
section
variable {P : Program} {ops : Array Oper} {E : (World → Prop) → (World → Prop) → Act → Prop}
theorem wpF_void (hE : ∀ C D a, (∀ w, ¬ C w) → E C D a) : ∀ (r : Pl) (C D : World → Prop) (a : Act), (∀ w, ¬ C w) → r.okv ops = true → wpF P ops E r C D a
  | .nil, C, D, a, hC, _ => hE C D a hC
  | .q i r, C, D, a, hC, h => by
    simp only [Pl.okv, Bool.and_eq_true, decide_eq_true_eq] at h
    refine ⟨ops[i]'h.1, Array.getElem?_eq_getElem h.1, undef, ?_, wpF_void hE r C D _ hC h.2⟩
    unfold YQ
    cases hw : Region.wanted (ops[i]'h.1) (yielded ops a.tmps) with
    | true => exact .inl ⟨rfl, fun w hw => (hC w hw).elim⟩
    | false => exact .inr ⟨rfl, rfl⟩
  | .alt i r s, C, D, a, hC, h => by
    simp only [Pl.okv, Bool.and_eq_true] at h
    obtain ⟨⟨h1, h2⟩, h3⟩ := h
    cases ho : ops[i]? with
    | none => rw [ho] at h1; cases h1
    | some o =>
      rw [ho] at h1
      have hg : o.guard = none := Option.isNone_iff_eq_none.1 h1
      refine ⟨⟨o, ho, by unfold Region.wanted; rw [hg], fun _ _ => True, fun _ _ => True, fun _ _ _ _ _ => True.intro, fun _ _ _ _ _ => True.intro, fun w hw _ => (hC w hw).elim, fun v => wpF_void hE r _ _ _ (fun w hw => hC w hw.1) h2⟩, wpF_void hE s C D a hC h3⟩
  | .stop, _, _, _, _, _ => True.intro
variable {ts : List Value} {df : List Deferred} {r s : Pl} {C D : World → Prop} {i : Nat} {o : Oper} {l : List Oper}
def stepE (p : Value → Prop) (C : World → Prop) (F D : Value → World → Prop) (v : Value) (w : World) : Prop := p v ∧ C w ∧ F v w ∧ D v w
/-- A step; p holds of its value. -/
theorem wf_stepE (p : Value → Prop) (F D' : Value → World → Prop) (hF : ∀ v, Stab (F v)) (hD : ∀ v, Stab (D' v)) (ho : nthO l i = some o) (hw : wantB l ts o.guard = true) (hr : r.okv l.toArray = true) (hE : ∀ C D a, (∀ w, ¬ C w) → E C D a)
    (hl : ∀ w, C w → D w → stepRes P (stepE p C F D') ((execOp (Act.eval { tmps := ts.toArray, defers := df }) o).run P w))
    (h : ∀ K : (World → Prop) → (World → Prop) → Act → Prop, Shut (∀ C D a, WpF P l E r C D a → K C D a) → ∀ v, p v → K (fun w => C w ∧ F v w) (D' v) (Act.put { tmps := ts.toArray, defers := df } o.dst v))
    (h2 : WpF P l E s C D { tmps := ts.toArray, defers := df }) : WpF P l E (.alt i r s) C D { tmps := ts.toArray, defers := df } := by
  refine wf_step (fun v w => p v ∧ F v w) D' (fun v w w' h hb => ⟨h.1, hF v w w' h.2 hb⟩) hD ho hw (fun w hc hd => stepRes_mono (hl w hc hd) (fun v w ⟨h1, h2, h3, h4⟩ => ⟨h2, ⟨h1, h3⟩, h4⟩)) (fun K hK v => ?_) h2
  by_cases hv : p v
  · have e : (fun w => C w ∧ p v ∧ F v w) = (fun w => C w ∧ F v w) := funext fun w => propext ⟨fun h => ⟨h.1, h.2.2⟩, fun h => ⟨h.1, hv, h.2⟩⟩
    rw [e]
    exact h K hK v hv
  · exact hK _ _ _ ⟨wpF_void hE r _ _ _ (fun w hw => hv hw.2.1) hr⟩
end
section
variable {P : Program} {ops : Array Oper} {B : Nat} {Z : TypeId → Obj}
def plainB (ops : Array Oper) (p : Nat × Bool) : Bool := !p.2 && match ops[p.1]? with | some o => (allocOf o).isNone | none => false
theorem wpP_void {E : (World → Prop) → Act → Prop} (hE : ∀ C a, (∀ w, ¬ C w) → E C a) : ∀ (r : List (Nat × Bool)) (C : World → Prop) (U : List Nat) (a : Act), (∀ w, ¬ C w) → r.all (plainB ops) = true → wpP B P ops Z E r C U a
  | [], C, _, a, hC, _ => hE C a hC
  | (i, k) :: r, C, U, a, hC, h => by
    simp only [List.all_cons, Bool.and_eq_true] at h
    obtain ⟨h1, h2⟩ := h
    unfold plainB at h1
    simp only [Bool.and_eq_true, Bool.not_eq_true'] at h1
    cases ho : ops[i]? with
    | none => rw [ho] at h1; cases h1.2
    | some o =>
      rw [ho] at h1
      have ha : allocOf o = none := Option.isNone_iff_eq_none.1 h1.2
      unfold wpP
      simp only [ho, ha]
      split
      · exact .inl ⟨undef, fun w hw => (hC w hw).elim, wpP_void hE r C U _ hC h2⟩
      · exact wpP_void hE r C U _ hC h2
variable {ts : List Value} {df : List Deferred} {r : List (Nat × Bool)} {C : World → Prop} {U : List Nat} {i : Nat} {o : Oper} {l : List Oper} {E : (World → Prop) → Act → Prop}
/-- What every world of the class tells, and hangs on no world, is known from here on. -/
theorem wpP_pure {a : Act} (p : Prop) (hp : ∀ w, C w → p) (hr : r.all (plainB l.toArray) = true) (hE : ∀ C a, (∀ w, ¬ C w) → E C a) (h : p → WpS B P l Z E r C U a) : WpS B P l Z E r C U a := by
  by_cases hv : p
  · exact h hv
  · exact ⟨wpP_void hE r _ _ _ (fun w hw => hv (hp w hw)) hr⟩
theorem wpP_void2 {E : (World → Prop) → Act → Prop} (hE : ∀ C a, (∀ w, ¬ C w) → E C a) {i0 : Nat} {o0 : Oper} {t : TypeId} (ho : ops[i0]? = some o0) (ha : allocOf o0 = some t) (hal : ∀ (a : Act) (w : World), (execOp a.eval o0).run P w = .ok (.value (ptrTo w.heap.size)) (w.alloc (Z t))) :
    ∀ (r : List (Nat × Bool)) (C : World → Prop) (U : List Nat) (a : Act), (∀ w, ¬ C w) → r.all (plainB ops) = true → wpP B P ops Z E (r ++ [(i0, true)]) C U a
  | [], C, U, a, hC, _ => by
    unfold wpP
    simp only [List.nil_append, ho, ha]
    exact ⟨trivial, fun w => hal a w, fun b _ => hE _ _ (fun w hw => hC w hw.1)⟩
  | (i, k) :: r, C, U, a, hC, h => by
    simp only [List.all_cons, Bool.and_eq_true] at h
    obtain ⟨h1, h2⟩ := h
    unfold plainB at h1
    simp only [Bool.and_eq_true, Bool.not_eq_true'] at h1
    cases ho' : ops[i]? with
    | none => rw [ho'] at h1; cases h1.2
    | some o =>
      rw [ho'] at h1
      have ha' : allocOf o = none := Option.isNone_iff_eq_none.1 h1.2
      rw [List.cons_append]
      unfold wpP
      simp only [ho', ha']
      split
      · exact .inl ⟨undef, fun w hw => (hC w hw).elim, wpP_void2 hE ho ha hal r C U _ hC h2⟩
      · exact wpP_void2 hE ho ha hal r C U _ hC h2
theorem wpP_pure2 {a : Act} (p : Prop) (r1 : List (Nat × Bool)) {i0 : Nat} {o0 : Oper} {t : TypeId} (hp : ∀ w, C w → p) (hr1 : r = r1 ++ [(i0, true)]) (ho : nthO l i0 = some o0) (ha : allocOf o0 = some t) (hal : ∀ (a : Act) (w : World), (execOp a.eval o0).run P w = .ok (.value (ptrTo w.heap.size)) (w.alloc (Z t)))
    (hr : r1.all (plainB l.toArray) = true) (hE : ∀ C a, (∀ w, ¬ C w) → E C a) (h : p → WpS B P l Z E r C U a) : WpS B P l Z E r C U a := by
  by_cases hv : p
  · exact h hv
  · rw [← nthO_eq] at ho
    subst hr1
    exact ⟨wpP_void2 hE ho ha hal r1 _ _ _ (fun w hw => hv (hp w hw)) hr⟩
end
end Go.Proofs.Ytangcgfchalnaaa
