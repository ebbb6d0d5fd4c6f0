/- A step that writes to some blocks alone; memory that objects own. No program. -/
import Derived.Test.YtjnkcgegmffncaaWir
namespace Go.Proofs.Ytjnkcgegmffncaa
open Go.RowKit
/-- Of what was there, blocks of S alone may have turned. -/
structure Only (S : Nat → Prop) (w w' : World) : Prop where
  os : w'.os = w.os
  tape : w'.tape = w.tape
  output : w'.output = w.output
  size : w.heap.size ≤ w'.heap.size
  block : ∀ k, k < w.heap.size → ¬ S k → w'.heap[k]? = w.heap[k]?
section
variable {S T : Nat → Prop} {w w' w'' w0 : World} {B : Nat}
theorem Only.refl (S : Nat → Prop) (w : World) : Only S w w := ⟨rfl, rfl, rfl, Nat.le_refl _, fun _ _ _ => rfl⟩
theorem Only.trans (h : Only S w w') (k : Only S w' w'') : Only S w w'' :=
  ⟨k.os.trans h.os, k.tape.trans h.tape, k.output.trans h.output, Nat.le_trans h.size k.size, fun i hi hn => (k.block i (Nat.lt_of_lt_of_le hi h.size) hn).trans (h.block i hi hn)⟩
theorem Only.mono (h : Only S w w') (hS : ∀ k, k < w.heap.size → S k → T k) : Only T w w' := ⟨h.os, h.tape, h.output, h.size, fun k hk hn => h.block k hk (fun hs => hn (hS k hk hs))⟩
/-- Two steps, of which the second writes to blocks of S or to new ones. -/
theorem Only.then (h : Only S w w') (k : Only T w' w'') (hT : ∀ i, i < w.heap.size → T i → S i) : Only S w w'' :=
  ⟨k.os.trans h.os, k.tape.trans h.tape, k.output.trans h.output, Nat.le_trans h.size k.size, fun i hi hn => (k.block i (Nat.lt_of_lt_of_le hi h.size) (fun ht => hn (hT i hi ht))).trans (h.block i hi hn)⟩
theorem Only.of_below (h : Below w.heap.size w w') : Only S w w' := ⟨h.os, h.tape, h.output, h.size, fun k hk _ => h.block k hk⟩
theorem Only.of_below' (h : Below B w w') (hS : ∀ k, k < w.heap.size → B ≤ k → S k) : Only S w w' := ⟨h.os, h.tape, h.output, h.size, fun k hk hn => h.block k (by
  rcases Nat.lt_or_ge k B with h | h
  · exact h
  · exact absurd (hS k hk h) hn)⟩
theorem Only.below (h : Only S w w') (hS : ∀ k, S k → B ≤ k) (hB : B ≤ w.heap.size) : Below B w w' :=
  ⟨h.os, h.tape, h.output, h.size, fun k hk => h.block k (by omega) (fun hs => by have := hS k hs; omega)⟩
theorem Only.alloc (h : Only S w0 w) (o : Obj) : Only S w0 (w.alloc o) :=
  h.then (T := fun _ => False) ⟨rfl, rfl, rfl, by simp, fun k hk _ => Below.heap_alloc _ _ _ hk⟩ (fun _ _ h => h.elim)
theorem Only.setCell (h : Only S w0 w) {p : Addr} (hp : p.block < w0.heap.size → S p.block) (u : Value) : Only S w0 (w.setCell p u) :=
  h.then (T := fun k => k = p.block) ⟨rfl, rfl, rfl, by simp [World.setCell], fun k _ hk => Below.heap_setCell _ _ _ _ hk⟩ (fun i hi e => by rw [e] at hi ⊢; exact hp hi)
theorem Only.set (w : World) (b o : Nat) (u : Value) : Only (fun k => k = b) w (w.setCell ⟨b, o, none⟩ u) := ⟨rfl, rfl, rfl, by simp [World.setCell], fun k _ hk => Below.heap_setCell _ _ _ _ hk⟩
theorem Only.drew (h : Only S w0 w) : Only S w0 w.drew := ⟨h.os, h.tape, h.output, h.size, h.block⟩
theorem Only.get {b : Nat} {o : Obj} (h : Only S w w') (hb : w.heap[b]? = some o) (hn : ¬ S b) : w'.heap[b]? = some o :=
  (h.block b (Array.getElem?_eq_some_iff.1 hb).1 hn).trans hb
theorem Only.cell (h : Only S w w') {p : Addr} (hp : p.block < w.heap.size) (hn : ¬ S p.block) : w'.cell? p = w.cell? p := World.cell?_of_block (w := w) (h.block p.block hp hn)
theorem Only.reads {size n : Nat} {A : Option Addr} {xs : List Value} (h : Only S w w') (hr : Reads w w.heap.size size A n xs) (hn : ∀ ad, A = some ad → ¬ S ad.block) : Reads w' w'.heap.size size A n xs :=
  ⟨hr.1, fun h0 => by
    obtain ⟨ad, e, hb, hc⟩ := hr.2 h0
    exact ⟨ad, e, Nat.lt_of_lt_of_le hb h.size, fun j u hu => (h.cell (by rw [block_of_add]; exact hb) (by rw [block_of_add]; exact hn ad e)).trans (hc j u hu)⟩⟩
theorem Only.rd {A : Option Addr} {l : List UInt8} (h : Only S w w') (hr : Rd w A l) (hn : ∀ ad, A = some ad → ¬ S ad.block) : Rd w' A l := h.reads hr hn
theorem only_lt {b : Nat} {o : Obj} (h : w.heap[b]? = some o) : b < w.heap.size := (Array.getElem?_eq_some_iff.1 h).1
end
/-- A store into a block of cells, whole. -/
theorem setCell_get {w : World} {b o : Nat} {c : Array Value} {t : TypeId} {u : Value} (h : w.heap[b]? = some (.cells c t (0, 0))) : (w.setCell ⟨b, o, none⟩ u).heap[b]? = some (.cells (c.setIfInBounds o u) t (0, 0)) := by
  simp [World.setCell, Array.getElem?_modify, h]
theorem setCell_other {w : World} {b b' o : Nat} {x : Obj} {u : Value} (h : w.heap[b]? = some x) (hne : b ≠ b') : (w.setCell ⟨b', o, none⟩ u).heap[b]? = some x :=
  (Below.heap_setCell w ⟨b', o, none⟩ u b hne).trans h
/-- A variable's own value stored again. -/
theorem setCell_self {w : World} {b : Nat} {v : Value} {t : TypeId} (h : w.heap[b]? = some (.cells #[v] t (0, 0))) : w.setCell ⟨b, 0, none⟩ v = w := by
  have this : (w.setCell ⟨b, 0, none⟩ v).heap = w.heap := by
    apply Array.ext (by simp [World.setCell])
    intro i h1 h2
    have e : (w.setCell ⟨b, 0, none⟩ v).heap[i]? = w.heap[i]? := by
      by_cases hi : i = b
      · rw [hi, setCell_get h, h]; rfl
      · exact Below.heap_setCell w ⟨b, 0, none⟩ v i hi
    rw [Array.getElem?_eq_getElem h1, Array.getElem?_eq_getElem h2] at e
    exact Option.some.inj e
  have h3 : w.setCell ⟨b, 0, none⟩ v = { w with heap := (w.setCell ⟨b, 0, none⟩ v).heap } := rfl
  rw [h3, this]
end Go.Proofs.Ytjnkcgegmffncaa
