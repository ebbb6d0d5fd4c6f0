/- Objects that lie side by side, each in memory of its own. No program. -/
import Derived.Test.YtjnkcgegmffncaaOwn
namespace Go.Proofs.Ytjnkcgegmffncaa
open Go.RowKit
/-- What an object says of the world, and in which blocks it lies. -/
abbrev Ob := World → (Nat → Prop) → Prop
/-- An object speaks of its own blocks alone. -/
structure Obj1 (A : Ob) : Prop where
  keep : ∀ {w w' : World} {F S : Nat → Prop}, A w F → Only S w w' → (∀ k, F k → k < w.heap.size → ¬ S k) → A w' F
  old : ∀ {w : World} {F : Nat → Prop}, A w F → A w (fun k => F k ∧ k < w.heap.size)
  weak : ∀ {w : World} {F G : Nat → Prop}, A w F → (∀ k, k < w.heap.size → F k → G k) → A w G
/-- Two objects side by side. -/
def Star (A B : Ob) : Ob := fun w H => ∃ F G : Nat → Prop, A w F ∧ B w G ∧ (∀ k, ¬ (F k ∧ G k)) ∧ (∀ k, F k → H k) ∧ ∀ k, G k → H k
/-- A step of an object: what it is now; it turned its own blocks alone, and laid new ones. -/
def Goes (A : Ob) (F : Nat → Prop) (w w' : World) : Prop := ∃ F', A w' F' ∧ (∀ k, F' k → (F k ∨ w.heap.size ≤ k) ∧ k < w'.heap.size) ∧ Only F w w'
section
variable {A A' B B' : Ob} {w w' w0 : World} {F G H : Nat → Prop}
theorem Obj1.below (h : Obj1 A) (ha : A w F) (hb : Below w.heap.size w w') : A w' F := h.keep (S := fun _ => False) ha (Only.of_below hb) (fun _ _ _ h => h)
theorem Star.obj (ha : Obj1 A) (hb : Obj1 B) : Obj1 (Star A B) where
  keep := fun ⟨F, G, h1, h2, h3, h4, h5⟩ ho hn => ⟨F, G, ha.keep h1 ho (fun k hk hl => hn k (h4 k hk) hl), hb.keep h2 ho (fun k hk hl => hn k (h5 k hk) hl), h3, h4, h5⟩
  old := fun {w _} ⟨F, G, h1, h2, h3, h4, h5⟩ => ⟨fun k => F k ∧ k < w.heap.size, fun k => G k ∧ k < w.heap.size, ha.old h1, hb.old h2, fun k hk => h3 k ⟨hk.1.1, hk.2.1⟩, fun k hk => ⟨h4 k hk.1, hk.2⟩, fun k hk => ⟨h5 k hk.1, hk.2⟩⟩
  weak := fun {w _ _} ⟨F, G, h1, h2, h3, h4, h5⟩ hG => ⟨fun k => F k ∧ k < w.heap.size, fun k => G k ∧ k < w.heap.size, ha.old h1, hb.old h2, fun k hk => h3 k ⟨hk.1.1, hk.2.1⟩, fun k hk => hG k hk.2 (h4 k hk.1), fun k hk => hG k hk.2 (h5 k hk.1)⟩
theorem Star.goes1 (hb : Obj1 B) (h2 : B w G) (h3 : ∀ k, ¬ (F k ∧ G k)) (h4 : ∀ k, F k → H k) (h5 : ∀ k, G k → H k) (hg : Goes A' F w w') : Goes (Star A' B) H w w' := by
  obtain ⟨F', g1, g2, g3⟩ := hg
  refine ⟨fun k => (H k ∨ w.heap.size ≤ k) ∧ k < w'.heap.size, ⟨F', fun k => G k ∧ k < w.heap.size, g1, hb.keep (hb.old h2) g3 (fun k hk _ hF => h3 k ⟨hF, hk.1⟩), fun k hk => ?_, fun k hk => ⟨(g2 k hk).1.imp (h4 k) id, (g2 k hk).2⟩, fun k hk => ⟨.inl (h5 k hk.1), Nat.lt_of_lt_of_le hk.2 g3.size⟩⟩, fun k hk => hk, g3.mono (fun k _ => h4 k)⟩
  rcases (g2 k hk.1).1 with h | h
  · exact h3 k ⟨h, hk.2.1⟩
  · have := hk.2.2; omega
theorem Star.comm (h : Star A B w H) : Star B A w H := by
  obtain ⟨F, G, h1, h2, h3, h4, h5⟩ := h; exact ⟨G, F, h2, h1, fun k hk => h3 k ⟨hk.2, hk.1⟩, h5, h4⟩
theorem Goes.mono {A A' : Ob} (h : Goes A F w w') (hm : ∀ F', A w' F' → A' w' F') : Goes A' F w w' := by
  obtain ⟨F', g1, g2, g3⟩ := h; exact ⟨F', hm F' g1, g2, g3⟩
theorem Star.goes2 (ha : Obj1 A) (h1 : A w F) (h3 : ∀ k, ¬ (F k ∧ G k)) (h4 : ∀ k, F k → H k) (h5 : ∀ k, G k → H k) (hg : Goes B' G w w') : Goes (Star A B') H w w' :=
  (Star.goes1 ha h1 (fun k hk => h3 k ⟨hk.2, hk.1⟩) h5 h4 hg).mono (fun _ h => h.comm)
theorem Goes.below (ha : Obj1 A) (h : A w F) (hb : Below w.heap.size w w') : Goes A F w w' :=
  ⟨fun k => F k ∧ k < w.heap.size, ha.below (ha.old h) hb, fun _ hk => ⟨.inl hk.1, Nat.lt_of_lt_of_le hk.2 hb.size⟩, Only.of_below hb⟩
theorem Goes.trans {A' A'' : Ob} {w'' : World} (h : Goes A' F w w') (hk : ∀ F', A' w' F' → Goes A'' F' w' w'') : Goes A'' F w w'' := by
  obtain ⟨F', g1, g2, g3⟩ := h
  obtain ⟨F2, k1, k2, k3⟩ := hk F' g1
  refine ⟨F2, k1, fun k hk => ⟨?_, (k2 k hk).2⟩, g3.then k3 (fun i hi hF => ?_)⟩
  · rcases (k2 k hk).1 with h | h
    · exact (g2 k h).1
    · have := g3.size; exact .inr (by omega)
  · exact (g2 i hF).1.resolve_right (by omega)
/-- Objects of a law's own: they lie behind w0. -/
structure LM (w0 : World) (A : Ob) (w : World) : Prop where
  below : Below w0.heap.size w0 w
  mem : ∃ F, A w F ∧ ∀ k, F k → w0.heap.size ≤ k
theorem LM.go (ha : Obj1 A) (h : LM w0 A w) (hb : Below w.heap.size w w') : LM w0 A w' := by
  obtain ⟨h1, F, h2, h3⟩ := h
  exact ⟨h1.trans (hb.mono h1.size), F, ha.below h2 hb, h3⟩
theorem LM.size (h : LM w0 A w) : w0.heap.size ≤ w.heap.size := h.below.size
theorem LM.goes (h : LM w0 A w) (hg : ∀ F, A w F → Goes A' F w w') : LM w0 A' w' := by
  obtain ⟨h1, F, h2, h3⟩ := h
  obtain ⟨F', g1, g2, g3⟩ := hg F h2
  refine ⟨h1.trans (g3.below h3 h1.size), F', g1, fun k hk => ?_⟩
  rcases (g2 k hk).1 with h | h
  · exact h3 k h
  · have := h1.size; omega
theorem LM.mono {A A' : Ob} (h : LM w0 A w) (hm : ∀ F, A w F → A' w F) : LM w0 A' w := ⟨h.below, by obtain ⟨F, h2, h3⟩ := h.mem; exact ⟨F, hm F h2, h3⟩⟩
theorem LM.comm (h : LM w0 (Star A B) w) : LM w0 (Star B A) w := h.mono (fun _ h => h.comm)
theorem LM.assoc {C : Ob} (h : LM w0 (Star (Star A B) C) w) : LM w0 (Star A (Star B C)) w := h.mono (fun _ ⟨_, G, ⟨F1, F2, h1, h2, h3, h4, h5⟩, g2, g3, g4, g5⟩ =>
  ⟨F1, fun k => F2 k ∨ G k, h1, ⟨F2, G, h2, g2, fun k hk => g3 k ⟨h5 k hk.1, hk.2⟩, fun _ hk => .inl hk, fun _ hk => .inr hk⟩, fun k hk => hk.2.elim (fun h => h3 k ⟨hk.1, h⟩) (fun h => g3 k ⟨h4 k hk.1, h⟩), fun k hk => g4 k (h4 k hk), fun k hk => hk.elim (fun h => g4 k (h5 k h)) (g5 k)⟩)
/-- A call that turns the object. -/
theorem LM.turn (h : LM w0 A w) {P : Program} {R : Ending → Prop} {f : Nat} {args : Array Value} (hc : ∀ F, A w F → Calls P f args w fun e w' => R e ∧ Goes A' F w w') : Calls P f args w fun e w' => R e ∧ LM w0 A' w' := by
  obtain ⟨F, h2, h3⟩ := h.mem
  refine (hc F h2).mono ?_
  rintro e w' ⟨hr, F', g1, g2, g3⟩
  refine ⟨hr, h.below.trans (g3.below h3 h.size), F', g1, fun k hk => ?_⟩
  rcases (g2 k hk).1 with hx | hx
  · exact h3 k hx
  · have := h.size; omega
theorem LM.turn1 (hB : Obj1 B) (h : LM w0 (Star A B) w) {P : Program} {R : Ending → Prop} {f : Nat} {args : Array Value} (hc : ∀ F, A w F → Calls P f args w fun e w' => R e ∧ Goes A' F w w') : Calls P f args w fun e w' => R e ∧ LM w0 (Star A' B) w' :=
  h.turn (fun _ ⟨F, _, h1, h2, h3, h4, h5⟩ => (hc F h1).mono fun _ _ ⟨a, b⟩ => ⟨a, Star.goes1 hB h2 h3 h4 h5 b⟩)
theorem LM.turn2 (hA : Obj1 A) (h : LM w0 (Star A B) w) {P : Program} {R : Ending → Prop} {f : Nat} {args : Array Value} (hc : ∀ F, B w F → Calls P f args w fun e w' => R e ∧ Goes B' F w w') : Calls P f args w fun e w' => R e ∧ LM w0 (Star A B') w' :=
  h.turn (fun _ ⟨_, G, h1, h2, h3, h4, h5⟩ => (hc G h2).mono fun _ _ ⟨a, b⟩ => ⟨a, Star.goes2 hA h1 h3 h4 h5 b⟩)
/-- A call that reads it. -/
theorem LM.read (h : LM w0 A w) {P : Program} {R : Ending → World → Prop} {f : Nat} {args : Array Value} (hc : ∀ F, A w F → Calls P f args w R) : Calls P f args w R := by
  obtain ⟨F, h2, _⟩ := h.mem
  exact hc F h2
theorem LM.read1 (h : LM w0 (Star A B) w) {P : Program} {R : Ending → World → Prop} {f : Nat} {args : Array Value} (hc : ∀ F, A w F → Calls P f args w R) : Calls P f args w R :=
  h.read (fun _ ⟨F, _, h1, _⟩ => hc F h1)
theorem LM.read2 (h : LM w0 (Star A B) w) {P : Program} {R : Ending → World → Prop} {f : Nat} {args : Array Value} (hc : ∀ F, B w F → Calls P f args w R) : Calls P f args w R :=
  h.read (fun _ ⟨_, G, _, h2, _⟩ => hc G h2)
/-- One more object, in new blocks. -/
theorem LM.more (hA : Obj1 A) (h : LM w0 A w) (hb : Below w.heap.size w w') {F : Nat → Prop} (hB : B w' F) (hF : ∀ k, F k → w.heap.size ≤ k) : LM w0 (Star A B) w' := by
  obtain ⟨h1, G, h2, h3⟩ := h
  refine ⟨h1.trans (hb.mono h1.size), fun k => w0.heap.size ≤ k, ⟨fun k => G k ∧ k < w.heap.size, F, hA.below (hA.old h2) hb, hB, fun k hk => ?_, fun k hk => h3 k hk.1, fun k hk => ?_⟩, fun k hk => hk⟩
  · have := hF k hk.2; have := hk.1.2; omega
  · have := hF k hk; have := h1.size; omega
theorem LM.first (hb : Below w0.heap.size w0 w) (h : Below w.heap.size w w') {F : Nat → Prop} (hB : B w' F) (hF : ∀ k, F k → w.heap.size ≤ k) : LM w0 B w' :=
  ⟨hb.trans (h.mono hb.size), F, hB, fun k hk => by have := hF k hk; have := hb.size; omega⟩
end
/-- A variable's box, or whatever lies in one block. -/
def BoxO (i : Nat) (x : Obj) : Ob := fun w F => F i ∧ w.heap[i]? = some x
theorem BoxO.obj (i : Nat) (x : Obj) : Obj1 (BoxO i x) where
  keep := fun h ho hn => ⟨h.1, ho.get h.2 (hn i h.1 (only_lt h.2))⟩
  old := fun h => ⟨⟨h.1, only_lt h.2⟩, h.2⟩
  weak := fun h hG => ⟨hG i (only_lt h.2) h.1, h.2⟩
theorem LM.box {A : Ob} {w0 w : World} (hA : Obj1 A) (h : LM w0 A w) (x : Obj) (hx : (w.alloc x).heap[w.heap.size]? = some x) : LM w0 (Star A (BoxO w.heap.size x)) (w.alloc x) :=
  h.more hA (below_alloc (Below.refl _ _) x) (F := fun k => k = w.heap.size) ⟨rfl, hx⟩ (fun k e => by omega)
/-- A slice of the law's own. -/
def RowO (e : TypeId) (size : Nat) (v : Value) (n : Nat) (xs : List Value) : Ob := fun w F => RowAt w F e size v n xs
theorem RowO.obj (e : TypeId) (size : Nat) (v : Value) (n : Nat) (xs : List Value) : Obj1 (RowO e size v n xs) where
  keep := fun h ho hn => h.keep ho hn
  old := fun h => h.weak (fun _ hk hF => ⟨hF, hk⟩)
  weak := fun h hG => h.weak hG
theorem RowO.cell {e : TypeId} {size n g c : Nat} {xs : List Value} {w : World} {F : Nat → Prop} (h : RowO e size (.slice (some ⟨g, 0, none⟩) n c) n xs w F) {j : Nat} {u : Value} (hu : xs[j]? = some u) : w.cell? ⟨g, j, none⟩ = some u := by
  rcases h.2 with ⟨h1, _⟩ | ⟨g', o, cap, cur, h1, h2, h3, h4, h5, h6, h7⟩
  · cases h1
  · cases h1
    have := row_cells (size := size) h3 h7 h4 j u hu
    have hadd : (⟨g, 0, none⟩ : Addr).add j = ⟨g, j, none⟩ := by unfold Addr.add; split <;> simp_all
    rwa [hadd] at this
theorem LM.row2 {A : Ob} {w0 w : World} {e : TypeId} {size n g c : Nat} {xs : List Value} (h : LM w0 (Star A (RowO e size (.slice (some ⟨g, 0, none⟩) n c) n xs)) w) {j : Nat} {u : Value} (hu : xs[j]? = some u) : w.cell? ⟨g, j, none⟩ = some u := by
  obtain ⟨_, F, ⟨_, G, _, h2, _⟩, _⟩ := h
  exact h2.cell hu
theorem LM.row {w0 w : World} {e : TypeId} {size n g c : Nat} {xs : List Value} (h : LM w0 (RowO e size (.slice (some ⟨g, 0, none⟩) n c) n xs) w) {j : Nat} {u : Value} (hu : xs[j]? = some u) : w.cell? ⟨g, j, none⟩ = some u := by
  obtain ⟨_, F, h2, _⟩ := h
  exact RowO.cell h2 hu
theorem LM.snd {A B : Ob} {w0 w : World} (h : LM w0 (Star A B) w) : LM w0 B w := ⟨h.below, by obtain ⟨F, ⟨_, G, _, h2, _, _, h5⟩, h3⟩ := h.mem; exact ⟨G, h2, fun k hk => h3 k (h5 k hk)⟩⟩
theorem LM.fst {A B : Ob} {w0 w : World} (h : LM w0 (Star A B) w) : LM w0 A w := h.comm.snd
/-! ### A slice of the call's own, as the kit says it -/
section
variable {w w' : World} {base base' : Nat} {e : TypeId} {size n : Nat} {v : Value} {xs : List Value} {a : Option Addr} {c : Nat}
theorem or_form (h : w.ownsRow base e size v n xs) : ∃ a cap, v = .slice a n cap := by
  rcases h.2 with ⟨rfl, rfl⟩ | ⟨g, cap, _, rfl, _⟩
  · exact ⟨none, 0, rfl⟩
  · exact ⟨_, _, rfl⟩
theorem or_addr (h : w.ownsRow base e size (.slice a n c) n xs) (h0 : 0 < n) : ∃ g, a = some ⟨g, 0, none⟩ := by
  rcases h.2 with ⟨h1, h2⟩ | ⟨g, _, _, h1, _⟩
  · omega
  · cases h1; exact ⟨g, rfl⟩
theorem or_below (h : w.ownsRow base e size v n xs) (hb : Below w.heap.size w w') : w'.ownsRow base e size v n xs :=
  ⟨h.1, h.2.imp id fun ⟨g, cap, cur, h1, h2, h3, h4⟩ => ⟨g, cap, cur, h1, h2, keepB h3 hb, h4⟩⟩
theorem or_base (h : w.ownsRow base e size v n xs) (hb : base' ≤ base) : w.ownsRow base' e size v n xs :=
  ⟨h.1, h.2.imp id (by rintro ⟨g, cap, cur, h1, h2, h3⟩; exact ⟨g, cap, cur, h1, Nat.le_trans hb h2, h3⟩)⟩
theorem or_at (h : w.ownsRow base e size v n xs) : RowAt w (fun k => base ≤ k) e size v n xs :=
  ⟨h.1, h.2.imp id fun ⟨g, cap, cur, h1, h2, h3, h4, h5, h6, h7⟩ => ⟨g, 0, cap, cur, h1, h2, h3, h4, h5, by omega, by simpa using h7⟩⟩
/-- A row that a call has handed back, beside what lay there. -/
theorem LM.rows {A : Ob} {w0 : World} (hA : Obj1 A) (h : LM w0 A w) (hb : Below w.heap.size w w') (hr : w'.ownsRow w.heap.size e size v n xs) : LM w0 (Star A (RowO e size v n xs)) w' :=
  h.more hA hb (F := fun k => w.heap.size ≤ k) (or_at hr) (fun _ h => h)
theorem or_cell {g : Nat} (h : w.ownsRow base e size (.slice (some ⟨g, 0, none⟩) n c) n xs) {j : Nat} {u : Value} (hu : xs[j]? = some u) : w.cell? ⟨g, j, none⟩ = some u := by
  rcases h.2 with ⟨h1, _⟩ | ⟨g', cap, cur, h1, h2, h3, h4, h5, h6, h7⟩
  · cases h1
  · cases h1
    have := row_cells (o := 0) (n := n) (size := size) (c := c) (xs := xs) h3 (by simpa using h7) h4 j u hu
    have hadd : (⟨g, 0, none⟩ : Addr).add j = ⟨g, j, none⟩ := by unfold Addr.add; split <;> simp_all
    rwa [hadd] at this
end
end Go.Proofs.Ytjnkcgegmffncaa
