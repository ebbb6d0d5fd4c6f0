/- A range over a function whose iterator keeps a stack of its own: cells of a type T. -/
import Derived.Test.YtjcbikkihijkiaaBgG
import Derived.RangeFuncNested
import Derived.RangeFuncBound
import Derived.RangeFuncCalls
import Derived.RangeFuncLeaves
import Derived.RangeFuncBox
import Derived.Shelf.Abstract
import Derived.Shelf.RegionOpen
import Derived.WalkKit
import Derived.OwnWalkIn
import Derived.TacticsInMore
import Derived.LoopNIn
import Derived.LoopIn
import Derived.Maps.AppendAt
namespace Go.Proofs.Ytjcbikkihijkiaa
open Go.RowKit Go.Shelf
/-- Cells of type T, or a walk's object: what the iterator may turn. -/
def TurnT (T : TypeId) (o : Obj) : Prop := o.isWalk = true ∨ ∃ cs fz, o = Obj.cells cs T fz
def AbidesT {β : Type} (T : TypeId) (B : Nat) (J : β → World → Prop) : Prop :=
  ∀ s W W' row, J s W → W.grownBy W' row → (∀ r, row = some r → B ≤ r ∧ ∃ o : Obj, W.heap[r]? = some o ∧ TurnT T o) → J s W'
/-- What a round keeps for the iterator. -/
structure KeepT (T : TypeId) (n₀ : Nat) (W W' : World) : Prop where
  below : Below n₀ W W'
  same : ∀ (k : Nat) (cs : Array Value) (fz : Nat × Nat), W.heap[k]? = some (Obj.cells cs T fz) → W'.heap[k]? = some (Obj.cells cs T fz)
theorem KeepT.refl (T : TypeId) (n₀ : Nat) (W : World) : KeepT T n₀ W W := ⟨Below.refl _ _, fun _ _ _ h => h⟩
theorem KeepT.trans {T : TypeId} {n₀ : Nat} {A B C : World} (h : KeepT T n₀ A B) (k : KeepT T n₀ B C) : KeepT T n₀ A C := ⟨h.below.trans k.below, fun i cs fz hi => k.same i cs fz (h.same i cs fz hi)⟩
theorem KeepT.grown {T : TypeId} {n₀ : Nat} {A B : World} {row : Option Nat} (hg : A.grownBy B row) (hn : n₀ ≤ A.heap.size) (hr : ∀ r, row = some r → n₀ ≤ r ∧ ∀ cs fz, A.heap[r]? ≠ some (Obj.cells cs T fz)) : KeepT T n₀ A B :=
  ⟨(Below.refl _ _).grown hg hn (fun k e => (hr k e).1), fun k cs fz h => (hg.block k (Array.getElem?_eq_some_iff.1 h).1 (fun e => (hr k e.symm).2 cs fz h)).trans h⟩
theorem KeepT.alloc {T : TypeId} {n₀ : Nat} {A : World} (o : Obj) (hn : n₀ ≤ A.heap.size) : KeepT T n₀ A (A.alloc o) := KeepT.grown (row := none) (World.grownBy_alloc A o none) hn (fun _ e => by cases e)
theorem KeepT.put {T : TypeId} {n₀ : Nat} {A : World} {l : Nat} {o o' : Obj} (hl : A.heap[l]? = some o) (ho : ∀ cs fz, o ≠ Obj.cells cs T fz) (hn : n₀ ≤ l) (hs : n₀ ≤ A.heap.size) : KeepT T n₀ A (A.putObj l o') :=
  KeepT.grown (grownBy_putObj' A l o') hs (fun r e => by cases e; exact ⟨hn, fun cs fz h => ho cs fz (Option.some.inj (hl.symm.trans h))⟩)
/-- A block that the iterator does not turn. -/
theorem turn_keeps {T : TypeId} {W W' : World} {row : Option Nat} {B k : Nat} {o : Obj} (hg : W.grownBy W' row) (hr : ∀ r, row = some r → B ≤ r ∧ ∃ o : Obj, W.heap[r]? = some o ∧ TurnT T o) (hk : W.heap[k]? = some o) (ho : ¬ TurnT T o) : W'.heap[k]? = some o :=
  (hg.block k (Array.getElem?_eq_some_iff.1 hk).1 (fun e => by
    obtain ⟨_, o2, h2, h3⟩ := hr k e.symm
    rw [hk] at h2; cases h2; exact ho h3)).trans hk
def SeqT {α : Type} (T : TypeId) (gf : Nat) (lb : Array Value) (encs : α → Array Value) (L : List α) (w : World) : Prop :=
  ∀ (l : Nat) (J : List α → World → Prop) (W : World), Below w.heap.size w W → AbidesT T W.heap.size J →
    (∀ pre x W1, J pre W1 → pre.length < L.length → YieldAt Fence.wide 7 Try.prog l (encs x) W1 fun e W' => e = .returned (.bool true) ∧ J (pre ++ [x]) W' ∧ KeepT T w.heap.size W1 W') →
    J [] W → CallsIn Fence.wide 8 Try.prog gf (#[.func (.yield l) #[] #[]] ++ lb) W fun e W' => (∃ v, e = .returned v) ∧ J L W'
theorem SeqT.later {α : Type} {T : TypeId} {gf : Nat} {lb : Array Value} {encs : α → Array Value} {L : List α} {w w' : World} (h : SeqT T gf lb encs L w) (hb : Below w.heap.size w w') : SeqT T gf lb encs L w' :=
  fun l J W hW hJ hY h0 => h l J W (hb.trans (hW.mono hb.size)) hJ (fun pre x W1 hp hl => by
    obtain ⟨fn, tm, asg, bd, h1, h2⟩ := hY pre x W1 hp hl
    exact ⟨fn, tm, asg, bd, h1, h2.mono fun e W' ⟨a, b, c⟩ => ⟨a, b, c.below.mono hb.size, c.same⟩⟩) h0
def OwnT {β : Type} (T : TypeId) (B : Nat) (I : β → World → Prop) : Prop :=
  ∀ s W W' row, I s W → W.grownBy W' row → (∀ r, row = some r → B ≤ r ∧ ∃ o : Obj, W.heap[r]? = some o ∧ (o.isCells = false ∨ ∃ cs fz, o = Obj.cells cs T fz)) → I s W'
theorem OwnT.putObj {β : Type} {T : TypeId} {B : Nat} {I : β → World → Prop} (h : OwnT T B I) {s : β} {W : World} {l : Nat} {o : Obj} (o' : Obj) (hs : I s W) (hB : B ≤ l) (hl : W.heap[l]? = some o) (ho : o.isCells = false) : I s (W.putObj l o') :=
  h s W _ (some l) hs (grownBy_putObj' W l o') (fun r e => by cases e; exact ⟨hB, o, hl, .inl ho⟩)
theorem OwnT.alloc {β : Type} {T : TypeId} {B : Nat} {I : β → World → Prop} (h : OwnT T B I) {s : β} {W : World} (o : Obj) (hs : I s W) : I s (W.alloc o) :=
  h s W _ none hs (World.grownBy_alloc W o none) (fun r e => by cases e)
/-- How a round's body ends. -/
def postT {α : Type} (T : TypeId) (B n₀ : Nat) (I : List α → World → Prop) (xs : List α) (W : World) : Exit → Act → World → Prop
  | .normal, _, W' => KeepsFrom B W W' ∧ KeepT T n₀ W W' ∧ I xs W'
  | _, _, _ => False
theorem rangeSeq {α : Type} {T : TypeId} {g : Operand} {ps : Array Tmp} {assign body : Code} {Q : Exit → Act → World → Prop} {a : Act} {w0 w : World} (hb0 : Below w0.heap.size w0 w)
    {gf : Nat} {lb : Array Value} (hg : a.eval g = .func (.func gf) #[] lb) (eg : ∀ args w, (callFunc gf args).run Try.prog w = .ok (.enter gf args) w)
    {encs : α → Array Value} {L : List α} (hseq : SeqT T gf lb encs L w0) (hps : ∀ x, (encs x).size = ps.size)
    (I : List α → World → Prop) (hI : OwnT T w.heap.size I) (h0 : I [] w) (Ax : α → Act → World → Prop) (hAx : ∀ x a', OwnFrom w.heap.size (fun (_ : Unit) W => Ax x a' W))
    (hassign : ∀ (l : Nat) (pre : List α) (x : α) (W : World) (K : Act → World → Prop), I pre W → w.heap.size ≤ W.heap.size → (∀ a' W', KeepsFrom w.heap.size W W' → KeepT T w0.heap.size W W' → I pre W' → Ax x a' W' → K a' W') →
      assign.wpIn (Fence.wide.inRound l) 7 Try.prog (Exit.then K (fun _ _ _ => False)) { tmps := (ps.zip (encs x)).foldl (fun t (p, v) => t.setIfInBounds p v) a.tmps, defers := [] } W)
    (hbody : ∀ (l : Nat) (pre : List α) (x : α) (a' : Act) (W : World), w.heap.size ≤ l → l < W.heap.size → I pre W → Ax x a' W → pre.length < L.length → body.wpIn (Fence.wide.inRound l) 7 Try.prog (postT T w.heap.size w0.heap.size I (pre ++ [x]) W) a' W)
    (hdone : ∀ (D : Nat) (W : World), w.heap.size ≤ D → I L W → W.heap[D]? = some (.deferred (some [])) → Q .normal { a with defers := { target := .collected D, args := #[] } :: a.defers } W) :
    (Code.rangeFunc g ps assign body).wpIn Fence.wide 9 Try.prog Q a w := by
  have hz0 := hb0.size
  refine wpIn_rangeFunc ?_
  intro fn hfn
  obtain ⟨rec, hrec⟩ : ∃ rec : LoopState → Option Code → Loop, rec = fun st pe => { state := st, pending := pe, fn, tmps := a.tmps, params := ps, assign, body, defers := w.heap.size } := ⟨_, rfl⟩
  obtain ⟨W1, hW1⟩ : ∃ W1, (w.alloc (.deferred (some []))).alloc (.loop (rec .ready none)) = W1 := ⟨_, rfl⟩
  have hL1 : W1.heap[w.heap.size + 1]? = some (.loop (rec .ready none)) := by
    rw [← hW1]; have := newB (w.alloc (.deferred (some []))) (.loop (rec .ready none)); rwa [alloc_size] at this
  have hK1 : W1.heap[w.heap.size]? = some (.deferred (some [])) := by
    rw [← hW1]; exact keepA (newB w _) _
  have hI1 : I [] W1 := by rw [← hW1]; exact hI.alloc _ (hI.alloc _ h0)
  have hb1 : Below w.heap.size w W1 := by
    rw [← hW1]; exact below_alloc (below_alloc (Below.refl _ _) _) _
  have hs1 : W1.heap.size = w.heap.size + 2 := by rw [← hW1, alloc_size, alloc_size]
  have nl : ∀ r : Loop, ¬ TurnT T (.loop r) := fun r h => h.elim (fun h => by cases h) (fun ⟨_, _, h⟩ => by cases h)
  have nd : ∀ d, ¬ TurnT T (.deferred d) := fun r h => h.elim (fun h => by cases h) (fun ⟨_, _, h⟩ => by cases h)
  refine ⟨w.heap.size + 1, [{ target := .collected w.heap.size, args := #[] }], W1, { target := .fn (.func gf) lb, args := #[.func (.yield (w.heap.size + 1)) #[] #[]] }, W1, gf,
    #[.func (.yield (w.heap.size + 1)) #[] #[]] ++ lb, W1, ?_, ?_, ?_, ?_, fun _ => by omega, ?_⟩
  · rw [← hW1, hrec]; exact run_enterLoop_outer _ _ _ _ _
  · simp only [resolve, hg]
    simp [go_sem]
  · intro f' hf'; simp [Target.leads] at hf'; subst hf'; trivial
  · simp [invoke, go_sem, eg]
  · refine (hseq (w.heap.size + 1)
      (fun pre W => I pre W ∧ W.heap[w.heap.size + 1]? = some (.loop (rec .ready none)) ∧ W.heap[w.heap.size]? = some (.deferred (some [])))
      W1 (hb0.trans (hb1.mono hz0))
      (fun s A B row hs hg' hr => ⟨hI s A B row hs.1 hg' (fun r e => by
          obtain ⟨h1, o, h2, h3⟩ := hr r e
          exact ⟨by omega, o, h2, h3.imp (fun h => Obj.not_cells_of_walk h) id⟩), turn_keeps hg' hr hs.2.1 (nl _), turn_keeps hg' hr hs.2.2 (nd _)⟩)
      ?_ ⟨hI1, hL1, hK1⟩).mono ?_
    · rintro pre x W ⟨hi, hl, hk⟩ hlen
      have hlt : w.heap.size + 1 < W.heap.size := only_lt hl
      have hy := run_yield (P := Try.prog) (args := encs x) hl (by rw [hrec]; exact hps x)
      rw [hrec] at hy
      refine ⟨fn, _, assign, body, hy, roundIn_of_wpIn hfn (hassign _ pre x W _ hi (by omega) ?_)⟩
      clear hy
      intro a' W2 hkf hkp hi2 hax
      have hl2 := hkf.same _ _ (by omega) hl rfl
      have hk2 := hkf.same _ _ (Nat.le_refl _) hk rfl
      have hlt2 : w.heap.size + 1 < W2.heap.size := only_lt hl2
      refine ⟨_, run_beginRound hl2 (by rw [hrec]), ?_⟩
      obtain ⟨W3, hW3⟩ : ∃ W3, W2.putObj (w.heap.size + 1) (.loop { rec .ready none with state := .busy }) = W3 := ⟨_, rfl⟩
      have hl3 : W3.heap[w.heap.size + 1]? = some (.loop { rec .ready none with state := .busy }) := by rw [← hW3]; exact World.putObj_heap_same hlt2
      have hk3 : W3.heap[w.heap.size]? = some (.deferred (some [])) := by rw [← hW3]; exact (World.putObj_heap_other (by omega)).trans hk2
      have hp3 : KeepT T w0.heap.size W2 W3 := by rw [← hW3]; exact KeepT.put hl2 (fun _ _ h => by cases h) (by omega) (by omega)
      have hi3 : I pre W3 := by rw [← hW3]; exact hI.putObj _ hi2 (by omega) hl2 rfl
      have hax3 : Ax x a' W3 := by rw [← hW3]; exact (hAx x a').putObj (s := ()) _ hax (by omega) hl2 rfl
      rw [hW3]
      refine wpIn_mono (hbody _ pre x a' W3 (by omega) (only_lt hl3) hi3 hax3 hlen) ?_
      rintro e a3 W4 hp
      cases e with
      | normal =>
        obtain ⟨hkf4, hkp4, hi4⟩ := hp
        have hl4 := hkf4.same _ _ (by omega) hl3 rfl
        have hk4 := hkf4.same _ _ (Nat.le_refl _) hk3 rfl
        have hr := run_endRound (P := Try.prog) none hl4
        rw [hrec] at hr hl4 ⊢
        exact ⟨_, _, hr, rfl, ⟨hI.putObj _ hi4 (by omega) hl4 rfl, World.putObj_heap_same (only_lt hl4), (World.putObj_heap_other (by omega)).trans hk4⟩,
          hkp.trans (hp3.trans (hkp4.trans (KeepT.put hl4 (fun _ _ h => by cases h) (by omega) (by have := only_lt hl4; omega))))⟩
      | ret => exact hp.elim
      | exit id => exact hp.elim
      | goto t => exact hp.elim
      | panic ch => exact hp.elim
      | outgrown => exact hp.elim
    · rintro e W2 ⟨⟨v, rfl⟩, hi, hl, hk⟩
      exact ⟨none, _, by have := run_endLoop (P := Try.prog) hl (by rw [hrec]; simp); rw [hrec] at this; exact this, hdone _ _ (Nat.le_refl _) (hI.putObj _ hi (by omega) hl rfl) ((World.putObj_heap_other (by omega)).trans hk)⟩
end Go.Proofs.Ytjcbikkihijkiaa
