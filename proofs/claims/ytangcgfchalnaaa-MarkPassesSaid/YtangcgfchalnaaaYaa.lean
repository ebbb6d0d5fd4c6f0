/- Parts of the proof: Reg. -/
import Derived.StillTail
import Derived.Below
import Derived.Deep.Quiet
import Derived.KernelRfl
/- A region whose order Go leaves open: one walk, in an order that the prover gives, serves every order, where each operation of the head yields one value in every world of a class that later steps keep, or (a call) some value of which a lasting fact is known, or makes a variable; the tail stands in one forced order. No condition on the program. -/
namespace Go.Proofs.Ytangcgfchalnaaa
open Go.RowKit

/-- Behind a call that leaves all blocks as they were: cells and marks as rules of the walk. -/
theorem bcell {W w1 : World} (hb : Below W.heap.size W w1) : (∀ b o, b < W.heap.size → w1.cell? ⟨b, o, none⟩ = W.cell? ⟨b, o, none⟩) ∧ (∀ b o, b < W.heap.size → w1.frozen? ⟨b, o, none⟩ = W.frozen? ⟨b, o, none⟩) :=
  ⟨fun b o h => hb.cell (p := ⟨b, o, none⟩) h, fun b o h => hb.frozen (p := ⟨b, o, none⟩) h⟩

/-! ### Variables laid one behind the other, and kept -/
theorem cellAt {w : World} {b o : Nat} {c : Array Value} {t : TypeId} {v : Value} (h : w.heap[b]? = some (.cells c t (0, 0))) (hv : c[o]? = some v) : w.cell? ⟨b, o, none⟩ = some v := by simp [World.cell?, h, hv]
theorem freeAt {w : World} {b : Nat} {c : Array Value} {t : TypeId} (o : Nat) (h : w.heap[b]? = some (.cells c t (0, 0))) : w.frozen? ⟨b, o, none⟩ = false := by simp [World.frozen?, h]

def boxes : World → List Obj → World
  | w, [] => w
  | w, o :: r => boxes (w.alloc o) r
theorem alloc_size (w : World) (o : Obj) : (w.alloc o).heap.size = w.heap.size + 1 := by show (w.heap.push o).size = _; simp
theorem boxes_size : ∀ (os : List Obj) (w : World), (boxes w os).heap.size = w.heap.size + os.length
  | [], _ => rfl
  | o :: r, w => by simp only [boxes, boxes_size r, alloc_size, List.length_cons]; omega
theorem boxes_below : ∀ (os : List Obj) (w : World), Below w.heap.size w (boxes w os)
  | [], _ => Below.refl _ _
  | o :: r, w => ((Below.refl _ w).alloc (Nat.le_refl _) o).trans ((boxes_below r (w.alloc o)).mono (by rw [alloc_size]; omega))
theorem boxes_get : ∀ (os : List Obj) (w : World) (i : Nat) (x : Obj), os[i]? = some x → (boxes w os).heap[w.heap.size + i]? = some x
  | [], _, i, _, h => by simp at h
  | o :: r, w, 0, x, h => by
    have hx : o = x := by simpa using h
    have h1 := (boxes_below r (w.alloc o)).block w.heap.size (by rw [alloc_size]; omega)
    refine h1.trans ?_
    rw [← hx]
    show (w.heap.push o)[w.heap.size]? = _
    simp
  | o :: r, w, i + 1, x, h => by
    have h1 := boxes_get r (w.alloc o) i x (by simpa using h)
    rw [alloc_size] at h1
    rw [show w.heap.size + (i + 1) = w.heap.size + 1 + i by omega]
    exact h1
theorem keepB {w w' : World} {b : Nat} {o : Obj} (h : w.heap[b]? = some o) (hb : Below w.heap.size w w') : w'.heap[b]? = some o := by
  have hlt : b < w.heap.size := (Array.getElem?_eq_some_iff.1 h).1
  exact (hb.block b hlt).trans h
theorem newB (w : World) (o : Obj) : (w.alloc o).heap[w.heap.size]? = some o := by show (w.heap.push o)[w.heap.size]? = _; simp
theorem keepA {w : World} {b : Nat} {o : Obj} (h : w.heap[b]? = some o) (x : Obj) : (w.alloc x).heap[b]? = some o := keepB h ((Below.refl _ _).alloc (Nat.le_refl _) x)
theorem below_alloc {a w : World} (h : Below a.heap.size a w) (o : Obj) : Below a.heap.size a (w.alloc o) := h.alloc h.size o
section
variable {w w' : World} {os : List Obj}
theorem box_base (h : Below (boxes w os).heap.size (boxes w os) w') : Below w.heap.size w w' := (boxes_below os w).trans (h.mono (by rw [boxes_size]; omega))
theorem box_at (h : Below (boxes w os).heap.size (boxes w os) w') (i : Nat) {x : Obj} (ho : os[i]? = some x) : ∀ b, b = w.heap.size + i → w'.heap[b]? = some x := fun b hb => by
  have hi : i < os.length := by
    rcases Nat.lt_or_ge i os.length with h | h
    · exact h
    · simp [h] at ho
  rw [hb, h.block _ (by rw [boxes_size]; omega)]
  exact boxes_get os w i x ho
theorem box_cell (h : Below (boxes w os).heap.size (boxes w os) w') (i o : Nat) {c : Array Value} {t : TypeId} {v : Value} (ho : os[i]? = some (.cells c t (0, 0))) (hv : c[o]? = some v) (b : Nat) (hb : b = w.heap.size + i) : w'.cell? ⟨b, o, none⟩ = some v := cellAt (box_at h i ho b hb) hv
theorem box_free (h : Below (boxes w os).heap.size (boxes w os) w') (i o : Nat) {c : Array Value} {t : TypeId} (ho : os[i]? = some (.cells c t (0, 0))) (b : Nat) (hb : b = w.heap.size + i) : w'.frozen? ⟨b, o, none⟩ = false := freeAt o (box_at h i ho b hb)
theorem box_lt (h : Below (boxes w os).heap.size (boxes w os) w') (i : Nat) (hi : i < os.length) : w.heap.size + i < w'.heap.size := by
  have := h.size; rw [boxes_size] at this; omega
end

section
variable {P : Program} {ops : Array Oper} {md : Region.Mode} {Z : TypeId → Obj} {B : Nat}

/-- A fact on worlds that no later step undoes which leaves all blocks as they are. -/
def Stab (C : World → Prop) : Prop := ∀ w w', C w → Below w.heap.size w w' → C w'

def ptrTo (b : Nat) : Value := .pointer (some ⟨b, 0, none⟩)

def allocOf (o : Oper) : Option TypeId :=
  match o.op, o.guard with
  | .alloc t, none => some t
  | _, _ => none

/-- The operation's run yields v, and leaves the world, or steps on from it. -/
def quietRes (P : Program) (w : World) (v : Value) : Result Next → Prop
  | .ok (.value u) w' => w' = w ∧ u = v
  | .ok .skip w' => w' = w ∧ v = undef
  | .ok (.enter f args) w' => w' = w ∧ Calls P f args w (fun e w'' => e = .returned v ∧ Below w.heap.size w w'')
  | _ => False

/-- What a loose step leaves. -/
def loosePost (w : World) (F : Value → List Nat → World → Prop) (v : Value) (w' : World) : Prop :=
  Below w.heap.size w w' ∧ ∃ bs : List Nat, (∀ b ∈ bs, w.heap.size ≤ b ∧ b < w'.heap.size) ∧ F v bs w'

/-- The operation's run yields some value of which F is so for good, with some blocks of its own. -/
def looseRes (P : Program) (w : World) (F : Value → List Nat → World → Prop) : Result Next → Prop
  | .ok (.value u) w' => loosePost w F u w'
  | .ok (.enter f args) w' => w' = w ∧ Calls P f args w (fun e w'' => ∃ v, e = .returned v ∧ loosePost w F v w'')
  | _ => False

def quietIn (P : Program) (C : World → Prop) (o : Oper) (a : Act) (v : Value) : Prop := ∀ w, C w → quietRes P w v ((execOp a.eval o).run P w)
def looseIn (P : Program) (C : World → Prop) (o : Oper) (a : Act) (F : Value → List Nat → World → Prop) : Prop := ∀ w, C w → looseRes P w F ((execOp a.eval o).run P w)
def allocIn (P : Program) (o : Oper) (a : Act) (x : Obj) : Prop := ∀ w : World, (execOp a.eval o).run P w = .ok (.value (ptrTo w.heap.size)) (w.alloc x)

abbrev Cont := (World → Prop) → List Nat → Act → Prop

/-- A block's number that is new, and not in use. -/
def Fresh (B : Nat) (U : List Nat) (b : Nat) : Prop := B ≤ b ∧ b ∉ U
theorem Fresh.mono {B b : Nat} {U U' : List Nat} (hU : ∀ b, b ∈ U → b ∈ U') (h : Fresh B U' b) : Fresh B U b := ⟨h.1, fun hb => h.2 (hU b hb)⟩

def vAlloc (B : Nat) (P : Program) (Z : TypeId → Obj) (C : World → Prop) (U : List Nat) (K : Cont) (a : Act) (o : Oper) (t : TypeId) : Prop :=
  allocIn P o a (Z t) ∧ ∀ b, Fresh B U b → K (fun w => C w ∧ w.heap[b]? = some (Z t)) (b :: U) (a.put o.dst (ptrTo b))
def vQuiet (P : Program) (C : World → Prop) (U : List Nat) (K : Cont) (a : Act) (o : Oper) : Prop :=
  ∃ v, quietIn P C o a v ∧ K C U (a.put o.dst v)
def vLoose (B : Nat) (P : Program) (C : World → Prop) (U : List Nat) (K : Cont) (a : Act) (o : Oper) : Prop :=
  ∃ F : Value → List Nat → World → Prop, (∀ v bs, Stab (F v bs)) ∧ looseIn P C o a F ∧
    ∀ v bs, (∀ b ∈ bs, Fresh B U b) → K (fun w => C w ∧ F v bs w) (bs ++ U) (a.put o.dst v)

def vOper (B : Nat) (P : Program) (ops : Array Oper) (Z : TypeId → Obj) (C : World → Prop) (U : List Nat) (K : Cont) (a : Act) (o : Oper) : Prop :=
  match allocOf o with
  | some t => vAlloc B P Z C U K a o t
  | none => if Region.wanted o (yielded ops a.tmps) then vQuiet P C U K a o ∨ vLoose B P C U K a o else K C U (a.put o.dst undef)

def vOp (B : Nat) (P : Program) (ops : Array Oper) (Z : TypeId → Obj) (C : World → Prop) (U : List Nat) (i : Nat) (K : Cont) (a : Act) : Prop :=
  match ops[i]? with
  | none => False
  | some o => vOper B P ops Z C U K a o

/-- Whatever order is picked from here on, as long as the head lasts. -/
def wpV (B : Nat) (P : Program) (md : Region.Mode) (ops : Array Oper) (Z : TypeId → Obj) (n : Nat) (L : (World → Prop) → Array Bool → Act → Prop) : Nat → (World → Prop) → List Nat → Array Bool → Act → Prop
  | 0, C, _, listed, a => L C listed a
  | f + 1, C, U, listed, a =>
    Region.ready md ops listed ≠ [] ∧ ∀ i ∈ Region.ready md ops listed, i < n ∧ vOp B P ops Z C U i (fun C' U' a' => wpV B P md ops Z n L f C' U' (listed.setIfInBounds i true) a') a

theorem Stab.and {C D : World → Prop} (h : Stab C) (k : Stab D) : Stab (fun w => C w ∧ D w) := fun w w' hw hb => ⟨h w w' hw.1 hb, k w w' hw.2 hb⟩
theorem Stab.block (b : Nat) (o : Obj) : Stab (fun w => w.heap[b]? = some o) := fun w w' hw hb => by
  have hlt : b < w.heap.size := (Array.getElem?_eq_some_iff.1 hw).1
  exact (hb.block b hlt).trans hw
theorem Stab.below (B : Nat) (w0 : World) (hB : B ≤ w0.heap.size) : Stab (Below B w0) := fun _ _ h k => h.trans (k.mono (Nat.le_trans hB h.size))

/-! ### A stronger class, more numbers in use -/
theorem vOper_mono {o : Oper} {a : Act} {C C' : World → Prop} {U U' : List Nat} {K K' : Cont} (hC : ∀ w, C' w → C w) (hU : ∀ b, b ∈ U → b ∈ U')
    (hK : ∀ C C' U U' a, (∀ w, C' w → C w) → (∀ b, b ∈ U → b ∈ U') → K C U a → K' C' U' a) (h : vOper B P ops Z C U K a o) : vOper B P ops Z C' U' K' a o := by
  unfold vOper at *
  split
  · rename_i t ht
    simp only [ht] at h
    refine ⟨h.1, fun b hb => ?_⟩
    refine hK _ _ _ _ _ (fun w hw => ⟨hC w hw.1, hw.2⟩) (fun x hx => ?_) (h.2 b (hb.mono hU))
    rcases List.mem_cons.1 hx with rfl | hx
    · exact List.mem_cons_self
    · exact List.mem_cons_of_mem _ (hU x hx)
  · rename_i ht
    simp only [ht] at h
    split
    · rename_i hw
      simp only [hw, if_true] at h
      rcases h with ⟨v, hq, hk⟩ | ⟨F, hs, hl, hk⟩
      · exact .inl ⟨v, fun w hw => hq w (hC w hw), hK _ _ _ _ _ hC hU hk⟩
      · refine .inr ⟨F, hs, fun w hw => hl w (hC w hw), fun v bs hbs => ?_⟩
        refine hK _ _ _ _ _ (fun w hw => ⟨hC w hw.1, hw.2⟩) (fun x hx => ?_) (hk v bs (fun b hb => (hbs b hb).mono hU))
        rcases List.mem_append.1 hx with hx | hx
        · exact List.mem_append_left _ hx
        · exact List.mem_append_right _ (hU x hx)
    · rename_i hw
      simp only [hw] at h
      exact hK _ _ _ _ _ hC hU h

theorem vOper_imp {o : Oper} {a : Act} {C : World → Prop} {U : List Nat} {K K' : Cont} (hK : ∀ C U a, K C U a → K' C U a) (h : vOper B P ops Z C U K a o) : vOper B P ops Z C U K' a o := by
  unfold vOper at *
  split
  · rename_i t ht
    simp only [ht] at h
    exact ⟨h.1, fun b hb => hK _ _ _ (h.2 b hb)⟩
  · rename_i ht
    simp only [ht] at h
    split
    · rename_i hw
      simp only [hw, if_true] at h
      rcases h with ⟨v, hq, hk⟩ | ⟨F, hs, hl, hk⟩
      · exact .inl ⟨v, hq, hK _ _ _ hk⟩
      · exact .inr ⟨F, hs, hl, fun v bs hbs => hK _ _ _ (hk v bs hbs)⟩
    · rename_i hw
      simp only [hw] at h
      exact hK _ _ _ h

theorem wpV_mono {n : Nat} {L : (World → Prop) → Array Bool → Act → Prop} (hL : ∀ C C' l a, (∀ w, C' w → C w) → L C l a → L C' l a) : ∀ (f : Nat) {C C' : World → Prop} {U U' : List Nat} {listed : Array Bool} {a : Act},
    (∀ w, C' w → C w) → (∀ b, b ∈ U → b ∈ U') → wpV B P md ops Z n L f C U listed a → wpV B P md ops Z n L f C' U' listed a
  | 0, _, _, _, _, _, _, hC, _, h => hL _ _ _ _ hC h
  | f + 1, _, _, _, _, listed, _, hC, hU, h => ⟨h.1, fun i hi => by
      refine ⟨(h.2 i hi).1, ?_⟩
      have h2 := (h.2 i hi).2
      unfold vOp at *
      split
      · rename_i ho; simp only [ho] at h2
      · rename_i o ho
        simp only [ho] at h2
        exact vOper_mono hC hU (fun _ _ _ _ _ hC hU hk => wpV_mono hL f hC hU hk) h2⟩

/-! ### It serves -/
theorem wpV_sound {n g : Nat} {L : (World → Prop) → Array Bool → Act → Prop} {Q : Exit → Act → World → Prop} (hL : ∀ C listed a, L C listed a → ∀ w, C w → wpAny P md ops Q g listed a w) :
    ∀ (f : Nat) (C : World → Prop) (U : List Nat) (listed : Array Bool) (a : Act) (w : World), Stab C → C w → B ≤ w.heap.size → (∀ b ∈ U, b < w.heap.size) → wpV B P md ops Z n L f C U listed a → wpAny P md ops Q (f + g) listed a w
  | 0, _, _, _, _, w, _, hw, _, _, h => by rw [Nat.zero_add]; exact hL _ _ _ h w hw
  | f + 1, C, U, listed, a, w, hS, hw, hB, hU, h => by
    rw [show f + 1 + g = (f + g) + 1 by omega]
    refine ⟨fun h0 => absurd h0 h.1, fun i hi => ?_⟩
    have h2 := (h.2 i hi).2
    unfold vOp at h2
    unfold wpOp
    split
    · rename_i ho; simp only [ho] at h2
    · rename_i o ho
      simp only [ho] at h2
      unfold vOper at h2
      split at h2
      · rename_i t ht
        have hwant : Region.wanted o (yielded ops a.tmps) = true := by
          unfold allocOf at ht
          split at ht
          · rename_i hg; unfold Region.wanted; rw [hg]
          · cases ht
        rw [if_pos hwant]
        refine .inl ?_
        unfold Oper.wp
        rw [h2.1 w]
        simp only [Oper.upon]
        have hb : Below w.heap.size w (w.alloc (Z t)) := (Below.refl _ _).alloc (Nat.le_refl _) _
        have hn : Fresh B U w.heap.size := ⟨hB, fun hm => Nat.lt_irrefl _ (hU _ hm)⟩
        refine wpV_sound hL f _ _ _ _ _ (hS.and (Stab.block _ _)) ⟨hS _ _ hw hb, ?_⟩ (Nat.le_trans hB hb.size) (fun b hm => ?_) (h2.2 w.heap.size hn)
        · show (w.heap.push (Z t))[w.heap.size]? = _
          simp
        · have hsz : (w.alloc (Z t)).heap.size = w.heap.size + 1 := by show (w.heap.push (Z t)).size = _; simp
          rcases List.mem_cons.1 hm with rfl | hm
          · omega
          · have := hU b hm; omega
      · split at h2
        · rename_i hwant
          rw [if_pos hwant]
          refine .inl ?_
          unfold Oper.wp
          rcases h2 with ⟨v, hq, hk⟩ | ⟨F, hs, hl, hk⟩
          · have h3 := hq w hw
            generalize (execOp a.eval o).run P w = r at *
            cases r with
            | ok nx w' =>
              cases nx <;> simp only [quietRes] at h3 <;> simp only [Oper.upon]
              case value u =>
                obtain ⟨e1, e2⟩ := h3
                rw [e1, e2]
                exact wpV_sound hL f _ _ _ _ _ hS hw hB hU hk
              case skip =>
                obtain ⟨e1, e2⟩ := h3
                rw [e1, ← e2]
                exact wpV_sound hL f _ _ _ _ _ hS hw hB hU hk
              case enter fn args =>
                obtain ⟨e1, hc⟩ := h3
                rw [e1]
                exact hc.mono fun e w'' ⟨he, hb⟩ => by
                  subst he
                  exact wpV_sound hL f _ _ _ _ _ hS (hS _ _ hw hb) (Nat.le_trans hB hb.size) (fun b hm => Nat.lt_of_lt_of_le (hU b hm) hb.size) hk
            | halt x w' => simp only [quietRes] at h3
          · have h3 := hl w hw
            have fin : ∀ v w'', loosePost w F v w'' → wpAny P md ops Q (f + g) (listed.setIfInBounds i true) (a.put o.dst v) w'' := fun v w'' ⟨hb, bs, hbs, hF⟩ => by
              refine wpV_sound hL f _ _ _ _ _ (hS.and (hs v bs)) ⟨hS _ _ hw hb, hF⟩ (Nat.le_trans hB hb.size) (fun b hm => ?_) (hk v bs (fun b hm => ⟨Nat.le_trans hB (hbs b hm).1, fun hbU => ?_⟩))
              · rcases List.mem_append.1 hm with hm | hm
                · exact (hbs b hm).2
                · exact Nat.lt_of_lt_of_le (hU b hm) hb.size
              · have := hU b hbU
                have := (hbs b hm).1
                omega
            generalize (execOp a.eval o).run P w = r at *
            cases r with
            | ok nx w' =>
              cases nx <;> simp only [looseRes] at h3 <;> simp only [Oper.upon]
              case value u => exact fin u w' h3
              case enter fn args =>
                obtain ⟨e1, hc⟩ := h3
                rw [e1]
                exact hc.mono fun e w'' ⟨v, he, hp⟩ => by subst he; exact fin v w'' hp
            | halt x w' => simp only [looseRes] at h3
        · rename_i hwant
          rw [if_neg hwant]
          exact wpV_sound hL f _ _ _ _ _ hS hw hB hU h2

/-! ### An operation may be taken first -/

/-- Operation j, apart from i: whether i's value is in its slot already makes no difference to it. -/
theorem vOper_put {oi oj : Oper} {v : Value} {X : (World → Prop) → Act → Prop} {C : World → Prop} {U : List Nat} {K : Cont} {a : Act} (hap : oi.apart ops oj = true) (hsj : ∀ cs b, oj.op ≠ .select cs b)
    (hX : ∀ C C' a u, (∀ w, C' w → C w) → X C a → X C' (a.put oj.dst u)) (hx : X C a) (h : vOper B P ops Z C U K (a.put oi.dst v) oj) :
    vOper B P ops Z C U (fun C' U' a' => X C' a' ∧ K C' U' (a'.put oi.dst v)) a oj := by
  obtain ⟨h1, h2, h3⟩ := Oper.apart_spec hap
  have hE : execOp (a.put oi.dst v).eval oj = execOp a.eval oj := execOp_put oj hsj a oi.dst v h1
  have hW := wanted_put oj a oi.dst v h1
  unfold vOper at *
  split
  · rename_i t ht
    simp only [ht] at h
    refine ⟨fun w => by rw [← hE]; exact h.1 w, fun b hb => ⟨hX _ _ _ _ (fun w hw => hw.1) hx, ?_⟩⟩
    rw [← Act.put_comm a v _ h2]
    exact h.2 b hb
  · rename_i ht
    simp only [ht] at h
    rw [hW] at h
    split
    · rename_i hw
      simp only [hw, if_true] at h
      rcases h with ⟨u, hq, hk⟩ | ⟨F, hs, hl, hk⟩
      · refine .inl ⟨u, fun w hw => by rw [← hE]; exact hq w hw, hX _ _ _ _ (fun w hw => hw) hx, ?_⟩
        rw [← Act.put_comm a v u h2]; exact hk
      · refine .inr ⟨F, hs, fun w hw => by rw [← hE]; exact hl w hw, fun u bs hbs => ⟨hX _ _ _ _ (fun w hw => hw.1) hx, ?_⟩⟩
        rw [← Act.put_comm a v u h2]; exact hk u bs hbs
    · rename_i hw
      simp only [hw] at h
      refine ⟨hX _ _ _ _ (fun w hw => hw) hx, ?_⟩
      rw [← Act.put_comm a v undef h2]; exact h

/-- In state a, in every world of the class, operation o yields v. -/
def YQ (P : Program) (ops : Array Oper) (o : Oper) (v : Value) (C : World → Prop) (a : Act) : Prop :=
  (Region.wanted o (yielded ops a.tmps) = true ∧ quietIn P C o a v) ∨ (Region.wanted o (yielded ops a.tmps) = false ∧ v = undef)
/-- .. it yields some value of which F is so. -/
def YL (P : Program) (ops : Array Oper) (o : Oper) (F : Value → List Nat → World → Prop) (C : World → Prop) (a : Act) : Prop :=
  Region.wanted o (yielded ops a.tmps) = true ∧ looseIn P C o a F

theorem YQ.keep {oi oj : Oper} {v : Value} (hap : oi.apart ops oj = true) (hsi : ∀ cs b, oi.op ≠ .select cs b) : ∀ C C' a u, (∀ w, C' w → C w) → YQ P ops oi v C a → YQ P ops oi v C' (a.put oj.dst u) := by
  obtain ⟨h1, h2, h3⟩ := Oper.apart_spec hap
  intro C C' a u hC h
  unfold YQ quietIn at *
  rw [execOp_put oi hsi a oj.dst u h3, wanted_put oi a oj.dst u h3]
  exact h.imp (fun ⟨hw, hq⟩ => ⟨hw, fun w hw' => hq w (hC w hw')⟩) id
theorem YL.keep {oi oj : Oper} {F : Value → List Nat → World → Prop} (hap : oi.apart ops oj = true) (hsi : ∀ cs b, oi.op ≠ .select cs b) : ∀ C C' a u, (∀ w, C' w → C w) → YL P ops oi F C a → YL P ops oi F C' (a.put oj.dst u) := by
  obtain ⟨h1, h2, h3⟩ := Oper.apart_spec hap
  intro C C' a u hC h
  unfold YL looseIn at *
  rw [execOp_put oi hsi a oj.dst u h3, wanted_put oi a oj.dst u h3]
  exact ⟨h.1, fun w hw' => h.2 w (hC w hw')⟩

theorem YQ.vOp {i : Nat} {oi : Oper} {v : Value} {C : World → Prop} {U : List Nat} {K : Cont} {a : Act} (hi : ops[i]? = some oi) (ha : allocOf oi = none) (hy : YQ P ops oi v C a) (h : K C U (a.put oi.dst v)) : vOp B P ops Z C U i K a := by
  unfold Go.Proofs.Ytangcgfchalnaaa.vOp vOper
  simp only [hi, ha]
  rcases hy with ⟨hw, hq⟩ | ⟨hw, rfl⟩
  · simp only [hw, if_true]; exact .inl ⟨v, hq, h⟩
  · simp only [hw, Bool.false_eq_true, if_false]; exact h

/-- The head's order: what is asked of 'listed' so that no operation of the tail may come up before the head is done. -/
def HeadOK (md : Region.Mode) (ops : Array Oper) (n : Nat) : Prop := ∀ listed, HeadInv md ops n listed → ∀ i, i < n → listed.getD i true = false → ∀ t ∈ Region.ready md ops listed, t < n

theorem free_set {i j : Nat} {oi : Oper} {listed : Array Bool} (hfree : ∀ j oj, ops[j]? = some oj → j ≠ i → listed.getD j true = false → (∀ e ∈ oj.after, Region.binds md e = true → e.on ≠ i) → oi.apart ops oj = true)
    (hjun : listed.getD j true = false) : ∀ k ok, ops[k]? = some ok → k ≠ i → (listed.setIfInBounds j true).getD k true = false → (∀ e ∈ ok.after, Region.binds md e = true → e.on ≠ i) → oi.apart ops ok = true := fun k ok hk hki hun hno => by
  refine hfree k ok hk hki ?_ hno
  by_cases hjk : j = k
  · subst hjk; exact hjun
  · rw [getD_set_ne true hjk] at hun; exact hun

theorem not_on {i : Nat} {oj : Oper} {listed : Array Bool} (hun : listed.getD i true = false) (hall : ∀ e ∈ oj.after, Region.binds md e = true → listed.getD e.on false = true) : ∀ e ∈ oj.after, Region.binds md e = true → e.on ≠ i := fun e he hb heq => by
  have h1 := hall e he hb
  rw [heq, getD_both hun] at h1
  cases h1

theorem wpV_first {n i : Nat} {oi : Oper} {v : Value} {L : (World → Prop) → Array Bool → Act → Prop} (hi : ops[i]? = some oi) (ha : allocOf oi = none) (hsel : ∀ (j : Nat) (o : Oper) cs b, ops[j]? = some o → o.op ≠ .select cs b)
    (hT : HeadOK md ops n) (hin : i < n) (hdone : ∀ C listed a, L C listed a → ∀ j ∈ Region.ready md ops listed, n ≤ j) :
    ∀ (f : Nat) (C : World → Prop) (U : List Nat) (listed : Array Bool) (a : Act), HeadInv md ops n listed →
      (∀ j oj, ops[j]? = some oj → j ≠ i → listed.getD j true = false → (∀ e ∈ oj.after, Region.binds md e = true → e.on ≠ i) → oi.apart ops oj = true) →
      i ∈ Region.ready md ops listed → YQ P ops oi v C a →
      wpV B P md ops Z n L f C U (listed.setIfInBounds i true) (a.put oi.dst v) → wpV B P md ops Z n L (f + 1) C U listed a := by
  intro f
  induction f with
  | zero =>
    intro C U listed a inv _ hr hy H
    have hun := (mem_ready.1 hr).1
    refine ⟨fun h => (by rw [h] at hr; cases hr), fun j hj => ?_⟩
    have hjn := hT listed inv i hin hun j hj
    refine ⟨hjn, ?_⟩
    by_cases hji : j = i
    · subst hji; exact hy.vOp hi ha H
    · have := hdone _ _ _ H j (ready_mono hj hji)
      omega
  | succ f ih =>
    intro C U listed a inv hfree hr hy H
    have hun := (mem_ready.1 hr).1
    refine ⟨fun h => (by rw [h] at hr; cases hr), fun j hj => ?_⟩
    have hjn := hT listed inv i hin hun j hj
    refine ⟨hjn, ?_⟩
    by_cases hji : j = i
    · subst hji; exact hy.vOp hi ha H
    · have h1 := (H.2 j (ready_mono hj hji)).2
      obtain ⟨hjun, oj, hoj, hall⟩ := mem_ready.1 hj
      have hap := hfree j oj hoj hji hjun (not_on hun hall)
      unfold vOp at h1 ⊢
      simp only [hoj] at h1 ⊢
      have h2 := vOper_put hap (fun cs b => hsel j oj cs b hoj) (YQ.keep hap (fun cs b => hsel i oi cs b hi)) hy h1
      refine vOper_imp (fun C' U' a' h3 => ih C' U' (listed.setIfInBounds j true) a' (inv.set hj hjn) (free_set hfree hjun) (ready_mono hr (Ne.symm hji)) h3.1 ?_) h2
      rw [Array.setIfInBounds_comm _ _ hji]
      exact h3.2

/-- Nobody but i and makers of variables may come up till i has come. -/
def Blocks (md : Region.Mode) (ops : Array Oper) (i : Nat) (listed : Array Bool) : Prop :=
  ∀ j oj, ops[j]? = some oj → j ≠ i → listed.getD j true = false → allocOf oj = none →
    ∃ e ∈ oj.after, Region.binds md e = true ∧ listed.getD e.on false = false ∧ (e.on = i ∨ ∃ oe, ops[e.on]? = some oe ∧ allocOf oe = none)

theorem Blocks.alloc {i j : Nat} {oj : Oper} {listed : Array Bool} (h : Blocks md ops i listed) (_hi : listed.getD i true = false) (hj : j ∈ Region.ready md ops listed) (hoj : ops[j]? = some oj) (hji : j ≠ i) : ∃ t, allocOf oj = some t := by
  cases ha : allocOf oj with
  | some t => exact ⟨t, rfl⟩
  | none =>
    obtain ⟨hjun, o', ho', hall⟩ := mem_ready.1 hj
    obtain rfl : oj = o' := Option.some.inj (hoj.symm.trans ho')
    obtain ⟨e, he, hb, hl, _⟩ := h j oj hoj hji hjun ha
    rw [hall e he hb] at hl
    cases hl

theorem Blocks.set {i j : Nat} {oj : Oper} {t : TypeId} {listed : Array Bool} (h : Blocks md ops i listed) (hoj : ops[j]? = some oj) (hji : j ≠ i) (ht : allocOf oj = some t) : Blocks md ops i (listed.setIfInBounds j true) := fun k ok hok hki hun ha => by
  have hjk : j ≠ k := fun e => by subst e; rw [Option.some.inj (hoj.symm.trans hok)] at ht; rw [ha] at ht; cases ht
  rw [getD_set_ne true hjk] at hun
  obtain ⟨e, he, hb, hl, hor⟩ := h k ok hok hki hun ha
  refine ⟨e, he, hb, ?_, hor⟩
  rw [getD_set_ne false ?_]
  · exact hl
  · rintro rfl
    rcases hor with h1 | ⟨oe, hoe, hae⟩
    · exact hji h1
    · rw [Option.some.inj (hoj.symm.trans hoe)] at ht; rw [hae] at ht; cases ht

theorem wpV_loose {n i : Nat} {oi : Oper} {F : Value → List Nat → World → Prop} {L : (World → Prop) → Array Bool → Act → Prop} (hL : ∀ C C' l a, (∀ w, C' w → C w) → L C l a → L C' l a) (hi : ops[i]? = some oi) (ha : allocOf oi = none)
    (hsel : ∀ (j : Nat) (o : Oper) cs b, ops[j]? = some o → o.op ≠ .select cs b)
    (hT : HeadOK md ops n) (hin : i < n) (hdone : ∀ C listed a, L C listed a → ∀ j ∈ Region.ready md ops listed, n ≤ j) (hF : ∀ v bs, Stab (F v bs)) :
    ∀ (f : Nat) (C : World → Prop) (U : List Nat) (listed : Array Bool) (a : Act), HeadInv md ops n listed → Blocks md ops i listed →
      (∀ j oj, ops[j]? = some oj → j ≠ i → listed.getD j true = false → (∀ e ∈ oj.after, Region.binds md e = true → e.on ≠ i) → oi.apart ops oj = true) →
      i ∈ Region.ready md ops listed → YL P ops oi F C a →
      (∀ v bs, (∀ b ∈ bs, Fresh B U b) → wpV B P md ops Z n L f (fun w => C w ∧ F v bs w) (bs ++ U) (listed.setIfInBounds i true) (a.put oi.dst v)) → wpV B P md ops Z n L (f + 1) C U listed a := by
  have hvi : ∀ (C : World → Prop) (U : List Nat) (a : Act) (K : Cont), YL P ops oi F C a → (∀ v bs, (∀ b ∈ bs, Fresh B U b) → K (fun w => C w ∧ F v bs w) (bs ++ U) (a.put oi.dst v)) → vOp B P ops Z C U i K a := fun C U a K hy hk => by
    unfold vOp vOper
    simp only [hi, ha, hy.1, if_true]
    exact .inr ⟨F, hF, hy.2, hk⟩
  intro f
  induction f with
  | zero =>
    intro C U listed a inv _ _ hr hy H
    have hun := (mem_ready.1 hr).1
    refine ⟨fun h => (by rw [h] at hr; cases hr), fun j hj => ?_⟩
    have hjn := hT listed inv i hin hun j hj
    refine ⟨hjn, ?_⟩
    by_cases hji : j = i
    · subst hji; exact hvi _ _ _ _ hy H
    · have := hdone _ _ _ (H undef [] (by simp)) j (ready_mono hj hji)
      omega
  | succ f ih =>
    intro C U listed a inv hbl hfree hr hy H
    have hun := (mem_ready.1 hr).1
    refine ⟨fun h => (by rw [h] at hr; cases hr), fun j hj => ?_⟩
    have hjn := hT listed inv i hin hun j hj
    refine ⟨hjn, ?_⟩
    by_cases hji : j = i
    · subst hji; exact hvi _ _ _ _ hy H
    · obtain ⟨hjun, oj, hoj, hall⟩ := mem_ready.1 hj
      obtain ⟨t, ht⟩ := hbl.alloc hun hj hoj hji
      have hap := hfree j oj hoj hji hjun (not_on hun hall)
      obtain ⟨h1, h2, h3⟩ := Oper.apart_spec hap
      have hsj := fun cs b => hsel j oj cs b hoj
      have hc : ∀ v bs, (∀ b ∈ bs, Fresh B U b) → vAlloc B P Z (fun w => C w ∧ F v bs w) (bs ++ U) (fun C' U' a' => wpV B P md ops Z n L f C' U' ((listed.setIfInBounds i true).setIfInBounds j true) a') (a.put oi.dst v) oj t := fun v bs hbs => by
        have := ((H v bs hbs).2 j (ready_mono hj hji)).2
        unfold vOp vOper at this
        simpa only [hoj, ht] using this
      unfold vOp vOper
      simp only [hoj, ht]
      refine ⟨fun w => by rw [← execOp_put oj hsj a oi.dst undef h1]; exact (hc undef [] (by simp)).1 w, fun b hb => ?_⟩
      refine ih _ _ _ _ (inv.set hj hjn) (hbl.set hoj hji ht) (free_set hfree hjun) (ready_mono hr (Ne.symm hji)) (YL.keep hap (fun cs b => hsel i oi cs b hi) _ _ _ _ (fun w hw => hw.1) hy) ?_
      intro v bs hbs
      have hbs' : ∀ x ∈ bs, Fresh B U x := fun x hx => ⟨(hbs x hx).1, fun hxU => (hbs x hx).2 (List.mem_cons_of_mem _ hxU)⟩
      have hbn : Fresh B (bs ++ U) b := ⟨hb.1, fun hm => by
        rcases List.mem_append.1 hm with hm | hm
        · exact (hbs b hm).2 List.mem_cons_self
        · exact hb.2 hm⟩
      have h4 := (hc v bs hbs').2 b hbn
      rw [← Act.put_comm a v _ h2, Array.setIfInBounds_comm _ _ hji]
      refine wpV_mono hL f (fun w hw => ⟨⟨hw.1.1, hw.2⟩, hw.1.2⟩) (fun x hx => ?_) h4
      rcases List.mem_cons.1 hx with rfl | hx
      · exact List.mem_append_right _ List.mem_cons_self
      · rcases List.mem_append.1 hx with hx | hx
        · exact List.mem_append_left _ hx
        · exact List.mem_append_right _ (List.mem_cons_of_mem _ hx)

theorem exists_fresh (B : Nat) (U : List Nat) : ∃ b, Fresh B U b := by
  have h : ∃ b, B ≤ b ∧ ∀ x ∈ U, x < b := by
    induction U with
    | nil => exact ⟨B, Nat.le_refl _, by simp⟩
    | cons x U ih =>
      obtain ⟨b, hB, hb⟩ := ih
      refine ⟨x + b + 1, by omega, fun y hy => ?_⟩
      rcases List.mem_cons.1 hy with rfl | hy
      · omega
      · have := hb y hy; omega
  obtain ⟨b, hB, hb⟩ := h
  exact ⟨b, hB, fun hm => Nat.lt_irrefl _ (hb b hm)⟩

theorem wpV_alloc {n i : Nat} {oi : Oper} {ti : TypeId} {L : (World → Prop) → Array Bool → Act → Prop} (hL : ∀ C C' l a, (∀ w, C' w → C w) → L C l a → L C' l a) (hi : ops[i]? = some oi) (ha : allocOf oi = some ti)
    (hsel : ∀ (j : Nat) (o : Oper) cs b, ops[j]? = some o → o.op ≠ .select cs b)
    (hT : HeadOK md ops n) (hin : i < n) (hdone : ∀ C listed a, L C listed a → ∀ j ∈ Region.ready md ops listed, n ≤ j) :
    ∀ (f : Nat) (C : World → Prop) (U : List Nat) (listed : Array Bool) (a : Act), HeadInv md ops n listed → Blocks md ops i listed →
      (∀ j oj, ops[j]? = some oj → j ≠ i → listed.getD j true = false → (∀ e ∈ oj.after, Region.binds md e = true → e.on ≠ i) → oi.apart ops oj = true) →
      i ∈ Region.ready md ops listed → allocIn P oi a (Z ti) →
      (∀ b, Fresh B U b → wpV B P md ops Z n L f (fun w => C w ∧ w.heap[b]? = some (Z ti)) (b :: U) (listed.setIfInBounds i true) (a.put oi.dst (ptrTo b))) → wpV B P md ops Z n L (f + 1) C U listed a := by
  have hvi : ∀ (C : World → Prop) (U : List Nat) (a : Act) (K : Cont), allocIn P oi a (Z ti) → (∀ b, Fresh B U b → K (fun w => C w ∧ w.heap[b]? = some (Z ti)) (b :: U) (a.put oi.dst (ptrTo b))) → vOp B P ops Z C U i K a := fun C U a K hy hk => by
    unfold vOp vOper
    simp only [hi, ha]
    exact ⟨hy, hk⟩
  intro f
  induction f with
  | zero =>
    intro C U listed a inv _ _ hr hy H
    have hun := (mem_ready.1 hr).1
    obtain ⟨b0, hb0⟩ := exists_fresh B U
    refine ⟨fun h => (by rw [h] at hr; cases hr), fun j hj => ?_⟩
    have hjn := hT listed inv i hin hun j hj
    refine ⟨hjn, ?_⟩
    by_cases hji : j = i
    · subst hji; exact hvi _ _ _ _ hy H
    · have := hdone _ _ _ (H b0 hb0) j (ready_mono hj hji)
      omega
  | succ f ih =>
    intro C U listed a inv hbl hfree hr hy H
    have hun := (mem_ready.1 hr).1
    obtain ⟨b0, hb0⟩ := exists_fresh B U
    refine ⟨fun h => (by rw [h] at hr; cases hr), fun j hj => ?_⟩
    have hjn := hT listed inv i hin hun j hj
    refine ⟨hjn, ?_⟩
    by_cases hji : j = i
    · subst hji; exact hvi _ _ _ _ hy H
    · obtain ⟨hjun, oj, hoj, hall⟩ := mem_ready.1 hj
      obtain ⟨t, ht⟩ := hbl.alloc hun hj hoj hji
      have hap := hfree j oj hoj hji hjun (not_on hun hall)
      obtain ⟨h1, h2, h3⟩ := Oper.apart_spec hap
      have hsj := fun cs b => hsel j oj cs b hoj
      have hc : ∀ x, Fresh B U x → vAlloc B P Z (fun w => C w ∧ w.heap[x]? = some (Z ti)) (x :: U) (fun C' U' a' => wpV B P md ops Z n L f C' U' ((listed.setIfInBounds i true).setIfInBounds j true) a') (a.put oi.dst (ptrTo x)) oj t := fun x hx => by
        have := ((H x hx).2 j (ready_mono hj hji)).2
        unfold vOp vOper at this
        simpa only [hoj, ht] using this
      unfold vOp vOper
      simp only [hoj, ht]
      refine ⟨fun w => by rw [← execOp_put oj hsj a oi.dst (ptrTo b0) h1]; exact (hc b0 hb0).1 w, fun b hb => ?_⟩
      refine ih _ _ _ _ (inv.set hj hjn) (hbl.set hoj hji ht) (free_set hfree hjun) (ready_mono hr (Ne.symm hji)) (fun w => by rw [execOp_put oi (fun cs b => hsel i oi cs b hi) a oj.dst (ptrTo b) h3]; exact hy w) ?_
      intro x hx
      have hx' : Fresh B U x := ⟨hx.1, fun hxU => hx.2 (List.mem_cons_of_mem _ hxU)⟩
      have hbn : Fresh B (x :: U) b := ⟨hb.1, fun hm => by
        rcases List.mem_cons.1 hm with rfl | hm
        · exact hx.2 List.mem_cons_self
        · exact hb.2 hm⟩
      have h4 := (hc x hx').2 b hbn
      rw [← Act.put_comm a (ptrTo x) _ h2, Array.setIfInBounds_comm _ _ hji]
      refine wpV_mono hL f (fun w hw => ⟨⟨hw.1.1, hw.2⟩, hw.1.2⟩) (fun y hy => ?_) h4
      rcases List.mem_cons.1 hy with rfl | hy
      · exact List.mem_cons_of_mem _ List.mem_cons_self
      · rcases List.mem_cons.1 hy with rfl | hy
        · exact List.mem_cons_self
        · exact List.mem_cons_of_mem _ (List.mem_cons_of_mem _ hy)

/-! ### The walk in the order that the prover gives -/

def blocksB (md : Region.Mode) (ops : Array Oper) (i : Nat) (listed : Array Bool) : Bool :=
  (List.range ops.size).all fun j => j == i || listed.getD j true || match ops[j]? with
    | some oj => (allocOf oj).isSome || oj.after.any fun e => Region.binds md e && !listed.getD e.on false && (e.on == i || match ops[e.on]? with | some oe => (allocOf oe).isNone | none => false)
    | none => true

theorem blocksB_spec {i : Nat} {listed : Array Bool} (h : blocksB md ops i listed = true) : Blocks md ops i listed := fun j oj hoj hji hun ha => by
  have hlt : j < ops.size := (Array.getElem?_eq_some_iff.1 hoj).1
  simp only [blocksB, List.all_eq_true, List.mem_range] at h
  have h1 := h j hlt
  simp only [hoj, Bool.or_eq_true, beq_iff_eq, hji, false_or, hun, Bool.false_eq_true, ha, Option.isSome_none] at h1
  obtain ⟨e, he, hb⟩ := Array.any_eq_true'.1 h1
  simp only [Bool.and_eq_true, Bool.not_eq_true', Bool.or_eq_true, beq_iff_eq] at hb
  refine ⟨e, he, hb.1.1, hb.1.2, hb.2.imp id fun h2 => ?_⟩
  cases hoe : ops[e.on]? with
  | none => simp [hoe] at h2
  | some oe => simp only [hoe, Option.isNone_iff_eq_none] at h2; exact ⟨oe, rfl, h2⟩

/-- k: 0 an operation of one value, 1 a loose one or a maker of a variable. -/
def permB (md : Region.Mode) (ops : Array Oper) (n g : Nat) : List (Nat × Bool) → Array Bool → Bool
  | [], listed => Region.seqB md ops g n listed
  | (i, k) :: r, listed => decide (i < n) && (Region.ready md ops listed).contains i && Region.free md ops listed i && (!k || blocksB md ops i listed) && permB md ops n g r (listed.setIfInBounds i true)

def headB (md : Region.Mode) (ops : Array Oper) (n : Nat) : Bool := decide (n = ops.size) || (decide (n < ops.size) && Region.sinkB md ops n && Region.chainB md ops n)

theorem headB_spec {n : Nat} (h : headB md ops n = true) : HeadOK md ops n := fun listed inv i hin hun t ht => by
  simp only [headB, Bool.or_eq_true, Bool.and_eq_true, decide_eq_true_eq] at h
  obtain ⟨_, ot, hot, _⟩ := mem_ready.1 ht
  have htl : t < ops.size := (Array.getElem?_eq_some_iff.1 hot).1
  rcases h with rfl | ⟨⟨hn, hs⟩, hc⟩
  · exact htl
  · rcases Nat.lt_or_ge t n with h | h
    · exact h
    · exact absurd ht (tail_waits hs hc hn inv _ i rfl hin hun t h)

/-- The walk itself. E: what is asked at the head's end. -/
def wpP (B : Nat) (P : Program) (ops : Array Oper) (Z : TypeId → Obj) (E : (World → Prop) → Act → Prop) : List (Nat × Bool) → (World → Prop) → List Nat → Act → Prop
  | [], C, _, a => E C a
  | (i, k) :: r, C, U, a => match ops[i]? with
    | none => False
    | some o => match allocOf o with
      | some t => k = true ∧ vAlloc B P Z C U (fun C' U' a' => wpP B P ops Z E r C' U' a') a o t
      | none => if Region.wanted o (yielded ops a.tmps) then (vQuiet P C U (fun C' U' a' => wpP B P ops Z E r C' U' a') a o ∨ (k = true ∧ vLoose B P C U (fun C' U' a' => wpP B P ops Z E r C' U' a') a o)) else wpP B P ops Z E r C U (a.put o.dst undef)

theorem wpV_of_wpP {n g : Nat} {E : (World → Prop) → Act → Prop} (hsel : Region.noSelect ops = true) (hT : HeadOK md ops n) (hE : ∀ C C' a, (∀ w, C' w → C w) → E C a → E C' a) :
    ∀ (l : List (Nat × Bool)) (C : World → Prop) (U : List Nat) (listed : Array Bool) (a : Act), HeadInv md ops n listed → permB md ops n g l listed = true → wpP B P ops Z E l C U a →
      wpV B P md ops Z n (fun C listed a => Region.seqB md ops g n listed = true ∧ E C a) l.length C U listed a
  | [], C, U, listed, a, _, hB, h => ⟨hB, h⟩
  | (i, k) :: r, C, U, listed, a, inv, hB, h => by
    simp only [permB, Bool.and_eq_true, decide_eq_true_eq, Bool.or_eq_true, Bool.not_eq_true'] at hB
    obtain ⟨⟨⟨⟨hin, hr⟩, hf⟩, hb⟩, hB'⟩ := hB
    have hr' : i ∈ Region.ready md ops listed := by simpa using hr
    have hsel' := Region.noSelect_spec hsel
    have hdone : ∀ C listed a, (Region.seqB md ops g n listed = true ∧ E C a) → ∀ j ∈ Region.ready md ops listed, n ≤ j := fun C listed a hL => seqB_ready hL.1
    have hL : ∀ C C' (l : Array Bool) a, (∀ w, C' w → C w) → (Region.seqB md ops g n l = true ∧ E C a) → (Region.seqB md ops g n l = true ∧ E C' a) := fun C C' l a hC h => ⟨h.1, hE _ _ _ hC h.2⟩
    have inv' := inv.set hr' hin
    have again := fun C U a h => wpV_of_wpP hsel hT hE r C U (listed.setIfInBounds i true) a inv' hB' h
    unfold wpP at h
    split at h
    · exact h.elim
    · rename_i o ho
      split at h
      · rename_i t ht
        obtain ⟨hk, hal, hcont⟩ := h
        refine wpV_alloc hL ho ht hsel' hT hin hdone _ C U listed a inv (blocksB_spec (hb.resolve_left (by simp [hk]))) (Region.free_spec ho hf) hr' hal (fun b hb => again _ _ _ (hcont b hb))
      · rename_i ht
        split at h
        · rename_i hw
          rcases h with ⟨v, hq, hcont⟩ | ⟨hk, F, hF, hl, hcont⟩
          · exact wpV_first ho ht hsel' hT hin hdone _ C U listed a inv (Region.free_spec ho hf) hr' (.inl ⟨hw, hq⟩) (again _ _ _ hcont)
          · exact wpV_loose hL ho ht hsel' hT hin hdone hF _ C U listed a inv (blocksB_spec (hb.resolve_left (by simp [hk]))) (Region.free_spec ho hf) hr' ⟨hw, hl⟩ (fun v bs hbs => again _ _ _ (hcont v bs hbs))
        · rename_i hw
          exact wpV_first ho ht hsel' hT hin hdone _ C U listed a inv (Region.free_spec ho hf) hr' (.inr ⟨by simpa using hw, rfl⟩) (again _ _ _ h)

def regB (md : Region.Mode) (ops : Array Oper) (n : Nat) (l : List (Nat × Bool)) : Bool :=
  Region.noSelect ops && headB md ops n && decide (l.length = n) && decide (n ≤ ops.size) && permB md ops n (ops.size - n) l (Array.replicate ops.size false)

/-- The walk, behind a name that nothing looks through. -/
structure WpS (B : Nat) (P : Program) (l : List Oper) (Z : TypeId → Obj) (E : (World → Prop) → Act → Prop) (r : List (Nat × Bool)) (C : World → Prop) (U : List Nat) (a : Act) : Prop where
  out : wpP B P l.toArray Z E r C U a

/-- ONE WALK SERVES EVERY ORDER. n: the operations before the tail; pm: the order of the walk. C: a lasting fact on worlds that holds behind the draw. Z: a new variable's contents, by its type. -/
theorem wp_region_perm {id : Nat} {Q : Exit → Act → World → Prop} {a : Act} {w : World} {l : List Oper} (n : Nat) (pm : List (Nat × Bool)) (Z : TypeId → Obj) (C : World → Prop) (hm : P.follows .mixedOrders = true) (hB : regB .any l.toArray n pm = true)
    (hS : Stab C) (hC : C w.drew) (h : WpS w.heap.size P l Z (fun C' a' => ∀ w', C' w' → wpList P l.toArray Q (l.drop n) a' w') pm C [] a) : (Code.region id l.toArray true).wp P Q a w := by
  simp only [regB, Bool.and_eq_true, decide_eq_true_eq] at hB
  obtain ⟨⟨⟨⟨hsel, hh⟩, hln⟩, hn⟩, hp⟩ := hB
  have hdl : (l.drop n).length = l.toArray.size - n := by simp
  have inv0 : HeadInv .any l.toArray n (Array.replicate l.toArray.size false) :=
    ⟨by simp, fun j oj _ hl => (by rw [getD_replicate_false] at hl; cases hl), fun t _ ht => getD_in (by simpa using ht) (getD_replicate_false _ _)⟩
  have H := wpV_of_wpP (B := w.heap.size) (md := .any) (g := l.toArray.size - n) hsel (headB_spec hh) (fun C C' a hC h w' hw' => h w' (hC w' hw')) pm C [] _ a inv0 hp h.out
  refine wp_region_any hm ?_
  have := wpV_sound (B := w.heap.size) (Q := Q) (g := l.toArray.size - n) (fun C' listed a' hL w' hw' => by
    have := wpAny_of_seq (md := .any) (Q' := Q) (l.drop n) n listed a' w' (fun j => by simp [List.getElem?_drop]) (by rw [hdl]; exact hL.1) (hL.2 w' hw')
    rwa [hdl] at this) pm.length C [] _ a w.drew hS hC (Nat.le_refl _) (by simp) H
  rw [hln, show n + (l.toArray.size - n) = l.toArray.size by omega] at this
  exact this

/-- The same; the lasting fact: all is as it was where the region begins. -/
theorem wp_region_here {id : Nat} {Q : Exit → Act → World → Prop} {a : Act} {w : World} {l : List Oper} (n : Nat) (pm : List (Nat × Bool)) (Z : TypeId → Obj) (hm : P.follows .mixedOrders = true) (hB : regB .any l.toArray n pm = true)
    (h : WpS w.heap.size P l Z (fun C' a' => ∀ w', C' w' → wpList P l.toArray Q (l.drop n) a' w') pm (Below w.heap.size w) [] a) : (Code.region id l.toArray true).wp P Q a w :=
  wp_region_perm n pm Z (Below w.heap.size w) hm hB (Stab.below _ _ (Nat.le_refl _)) ((Below.refl _ _).drew) h

/-! ### The steps of the walk: what follows stands behind a letter K -/
def Shut (p : Prop) : Prop := p
theorem Shut.out {p : Prop} (h : Shut p) : p := h

/-- Number i of a list that is written out. -/
def nthO : List Oper → Nat → Option Oper
  | [], _ => none
  | o :: _, 0 => some o
  | _ :: l, i + 1 => nthO l i
theorem nthO_eq : ∀ (l : List Oper) (i : Nat), l.toArray[i]? = nthO l i
  | [], _ => by simp [nthO]
  | _ :: _, 0 => by simp [nthO]
  | _ :: l, i + 1 => by simpa [nthO] using nthO_eq l i

def nthV : List Value → Nat → Option Value
  | [], _ => none
  | v :: _, 0 => some v
  | _ :: l, i + 1 => nthV l i
theorem nthV_eq : ∀ (l : List Value) (i : Nat), l.toArray[i]? = nthV l i
  | [], _ => by simp [nthV]
  | _ :: _, 0 => by simp [nthV]
  | _ :: l, i + 1 => by simpa [nthV] using nthV_eq l i
def isBool (b : Bool) : Option Value → Bool
  | some (.bool true) => b
  | some (.bool false) => !b
  | _ => false
def dstOf : Option Oper → Option Tmp
  | some o => o.dst
  | none => none
/-- Is the operation wanted? Reckoned by looking. -/
def wantB (l : List Oper) (ts : List Value) : Option (Nat × Bool) → Bool
  | none => true
  | some (j, b) => match dstOf (nthO l j) with
    | some d => isBool b (nthV ts d)
    | none => false
def wantN (l : List Oper) (ts : List Value) : Option (Nat × Bool) → Bool
  | none => false
  | some (j, b) => match dstOf (nthO l j) with
    | some d => isBool (!b) (nthV ts d)
    | none => false
theorem yielded_eq (l : List Oper) (ts : List Value) (j : Nat) (b : Bool) : (match dstOf (nthO l j) with | some d => isBool b (nthV ts d) | none => false) = true → yielded l.toArray ts.toArray j = some b := by
  intro h
  unfold yielded
  rw [nthO_eq]
  cases hn : nthO l j with
  | none => rw [hn] at h; simp [dstOf] at h
  | some o =>
    rw [hn] at h
    simp only [dstOf, Option.bind_some] at h ⊢
    cases hd : o.dst with
    | none => rw [hd] at h; simp at h
    | some d =>
      rw [hd] at h
      simp only [Option.bind_some] at h ⊢
      rw [nthV_eq]
      cases hv : nthV ts d with
      | none => rw [hv] at h; simp [isBool] at h
      | some v =>
        rw [hv] at h
        cases v <;> simp only [isBool, Bool.false_eq_true] at h
        rename_i c
        cases c <;> cases b <;> simp_all
theorem wantB_spec {l : List Oper} {ts : List Value} {o : Oper} (h : wantB l ts o.guard = true) : Region.wanted o (yielded l.toArray ts.toArray) = true := by
  unfold Region.wanted
  cases hg : o.guard with
  | none => rfl
  | some g =>
    obtain ⟨j, b⟩ := g
    rw [hg] at h
    simp only [yielded_eq l ts j b h]
    cases b <;> rfl
theorem wantN_spec {l : List Oper} {ts : List Value} {o : Oper} (h : wantN l ts o.guard = true) : Region.wanted o (yielded l.toArray ts.toArray) = false := by
  unfold Region.wanted
  cases hg : o.guard with
  | none => rw [hg] at h; simp [wantN] at h
  | some g =>
    obtain ⟨j, b⟩ := g
    rw [hg] at h
    simp only [yielded_eq l ts j (!b) h]
    cases b <;> rfl

variable {ts : List Value} {df : List Deferred}
variable {E : (World → Prop) → Act → Prop} {r : List (Nat × Bool)} {C : World → Prop} {U : List Nat} {a : Act} {i : Nat} {k : Bool} {o : Oper} {l : List Oper}

theorem quiet_value {w : World} {v : Value} : quietRes P w v (.ok (.value v) w) := ⟨rfl, rfl⟩
theorem quiet_none {w : World} : quietRes P w undef (.ok .skip w) := ⟨rfl, rfl⟩
theorem quiet_enter {w : World} {v : Value} {f : FuncId} {args : Array Value} (h : Calls P f args w fun e w'' => e = .returned v ∧ Below w.heap.size w w'') : quietRes P w v (.ok (.enter f args) w) := ⟨rfl, h⟩

theorem wpP_nil (h : E C a) : WpS B P l Z E [] C U a := ⟨h⟩

theorem wpP_q (ho : nthO l i = some o) (ha : allocOf o = none) (hw : wantB l ts o.guard = true) (h : ∃ v, (∀ w, C w → quietRes P w v ((execOp (Act.eval { tmps := ts.toArray, defers := df }) o).run P w)) ∧
    ∀ K : Act → Prop, Shut (∀ a, WpS B P l Z E r C U a → K a) → K (Act.put { tmps := ts.toArray, defers := df } o.dst v)) : WpS B P l Z E ((i, k) :: r) C U { tmps := ts.toArray, defers := df } := by
  obtain ⟨v, hq, h⟩ := h
  have hw : Region.wanted o (yielded l.toArray ts.toArray) = true := wantB_spec hw
  have hk := (h (fun a => WpS B P l Z E r C U a) (fun _ h => h)).out
  rw [← nthO_eq] at ho
  refine ⟨?_⟩
  unfold wpP
  simp only [ho, ha, hw, if_true]
  exact .inl ⟨v, hq, hk⟩

theorem wpP_skip (ho : nthO l i = some o) (ha : allocOf o = none) (hw : wantN l ts o.guard = true)
    (h : ∀ K : Act → Prop, Shut (∀ a, WpS B P l Z E r C U a → K a) → K (Act.put { tmps := ts.toArray, defers := df } o.dst undef)) : WpS B P l Z E ((i, k) :: r) C U { tmps := ts.toArray, defers := df } := by
  have hw : Region.wanted o (yielded l.toArray ts.toArray) = false := wantN_spec hw
  have hk := (h (fun a => WpS B P l Z E r C U a) (fun _ h => h)).out
  rw [← nthO_eq] at ho
  refine ⟨?_⟩
  unfold wpP
  simp only [ho, ha, hw, Bool.false_eq_true, if_false]
  exact hk

theorem wpP_alloc {t : TypeId} (ho : nthO l i = some o) (ha : allocOf o = some t) (hal : ∀ w : World, (execOp a.eval o).run P w = .ok (.value (ptrTo w.heap.size)) (w.alloc (Z t)))
    (h : ∀ K : (World → Prop) → List Nat → Act → Prop, Shut (∀ C U a, WpS B P l Z E r C U a → K C U a) → ∀ b, Fresh B U b → K (fun w => C w ∧ w.heap[b]? = some (Z t)) (b :: U) (a.put o.dst (ptrTo b))) : WpS B P l Z E ((i, true) :: r) C U a := by
  have h := fun b hb => (h (fun C U a => WpS B P l Z E r C U a) (fun _ _ _ h => h) b hb).out
  rw [← nthO_eq] at ho
  refine ⟨?_⟩
  unfold wpP
  simp only [ho, ha]
  exact ⟨trivial, hal, h⟩

theorem wpP_loose (F : Value → List Nat → World → Prop) (hF : ∀ v bs, Stab (F v bs)) (ho : nthO l i = some o) (ha : allocOf o = none) (hw : wantB l ts o.guard = true)
    (hl : ∀ w, C w → looseRes P w F ((execOp (Act.eval { tmps := ts.toArray, defers := df }) o).run P w))
    (h : ∀ K : (World → Prop) → List Nat → Act → Prop, Shut (∀ C U a, WpS B P l Z E r C U a → K C U a) →
      ∀ v bs, (∀ b ∈ bs, Fresh B U b) → K (fun w => C w ∧ F v bs w) (bs ++ U) (Act.put { tmps := ts.toArray, defers := df } o.dst v)) : WpS B P l Z E ((i, true) :: r) C U { tmps := ts.toArray, defers := df } := by
  have hw : Region.wanted o (yielded l.toArray ts.toArray) = true := wantB_spec hw
  have hk := fun v bs hb => (h (fun C U a => WpS B P l Z E r C U a) (fun _ _ _ h => h) v bs hb).out
  rw [← nthO_eq] at ho
  refine ⟨?_⟩
  unfold wpP
  simp only [ho, ha, hw, if_true]
  exact .inr ⟨trivial, F, hF, hl, hk⟩

end
end Go.Proofs.Ytangcgfchalnaaa
