/- Elements as cells: a row of values in memory. -/
import Derived.Test.YtfiinceogenlmaaAddsL
import Derived.Laws.OwnMore
import Derived.Deep.AppendLies
import Derived.Test.YtfiinceogenlmaaGreat
namespace Go.Proofs.Ytfiinceogenlmaa
open Go.RowKit
/-- The cells of a row of elements. -/
def rowE : List El → List Value
  | [] => []
  | e :: l => .int .i64 e.1 :: .bool e.2 :: rowE l
theorem rowE_length (l : List El) : (rowE l).length = l.length * 2 := by
  induction l with
  | nil => rfl
  | cons e l ih => simp only [rowE, List.length_cons, ih]; omega
theorem rowE_get0 (l : List El) (i : Nat) (h : i < l.length) : (rowE l)[i * 2]? = some (.int .i64 l[i].1) := by
  induction l generalizing i with
  | nil => exact absurd h (by simp)
  | cons e l ih =>
    cases i with
    | zero => rfl
    | succ i =>
      have := ih i (by simpa using h)
      rw [show (i + 1) * 2 = i * 2 + 1 + 1 by omega]
      simpa only [rowE, List.getElem?_cons_succ, List.getElem_cons_succ] using this
theorem rowE_get1 (l : List El) (i : Nat) (h : i < l.length) : (rowE l)[i * 2 + 1]? = some (.bool l[i].2) := by
  induction l generalizing i with
  | nil => exact absurd h (by simp)
  | cons e l ih =>
    cases i with
    | zero => rfl
    | succ i =>
      have := ih i (by simpa using h)
      rw [show (i + 1) * 2 + 1 = i * 2 + 1 + 1 + 1 by omega]
      simpa only [rowE, List.getElem?_cons_succ, List.getElem_cons_succ] using this
theorem rowE_set (l : List El) (i : Nat) (e : El) : ((rowE l).set (i * 2) (.int .i64 e.1)).set (i * 2 + 1) (.bool e.2) = rowE (l.set i e) := by
  induction l generalizing i with
  | nil => rfl
  | cons d l ih =>
    cases i with
    | zero => rfl
    | succ i =>
      rw [show (i + 1) * 2 + 1 = i * 2 + 1 + 1 + 1 by omega, show (i + 1) * 2 = i * 2 + 1 + 1 by omega]
      simp only [rowE, List.set_cons_succ, ih]
theorem rowE_one (l : List El) : ∀ u ∈ rowE l, u.oneCell' = true := by
  induction l with
  | nil => intro u h; exact absurd h (by simp [rowE])
  | cons e l ih =>
    intro u h
    simp only [rowE, List.mem_cons] at h
    rcases h with rfl | rfl | h
    · rfl
    · rfl
    · exact ih u h
/-- The elements lie in memory from an address on. -/
def liesE (w : World) (a : Addr) (l : List El) : Prop := ∀ i (h : i < l.length), w.cell? (a.add (i * 2)) = some (.int .i64 l[i].1) ∧ w.cell? (a.add (i * 2 + 1)) = some (.bool l[i].2)
theorem liesE.news {w : World} {a : Addr} {l : List El} (h : liesE w a l) : ∀ j u, (rowE l)[j]? = some u → w.cell? (a.add j) = some u := by
  intro j u hu
  have hj : j < (rowE l).length := by
    rcases Nat.lt_or_ge j (rowE l).length with h | h
    · exact h
    · rw [List.getElem?_eq_none h] at hu; cases hu
  rw [rowE_length] at hj
  have hi : j / 2 < l.length := by omega
  rcases Nat.mod_two_eq_zero_or_one j with e | e
  · have ej : j = j / 2 * 2 := by omega
    rw [ej] at hu ⊢
    rw [rowE_get0 l _ hi] at hu
    rw [← hu]; exact (h _ hi).1
  · have ej : j = j / 2 * 2 + 1 := by omega
    rw [ej] at hu ⊢
    rw [rowE_get1 l _ hi] at hu
    rw [← hu]; exact (h _ hi).2
theorem liesE.below {w w' : World} {a : Addr} {l : List El} (h : liesE w a l) (ha : a.block < w.heap.size) (hb : Below w.heap.size w w') : liesE w' a l := fun i hi =>
  ⟨(hb.cell (p := a.add (i * 2)) (by unfold Addr.add; split <;> exact ha)).trans (h i hi).1, (hb.cell (p := a.add (i * 2 + 1)) (by unfold Addr.add; split <;> exact ha)).trans (h i hi).2⟩
theorem add_succ (a : Addr) (n : Nat) : a.add (n + 1) = { block := (a.add n).block, off := (a.add n).off + 1 } := by
  unfold Addr.add
  by_cases h : n = 0
  · subst h; simp
  · simp [h]; omega
theorem liesE.at1 {w : World} {a : Addr} {l : List El} (h : liesE w a l) (i : Nat) (hi : i < l.length) : w.cell? { block := (a.add (i * 2)).block, off := (a.add (i * 2)).off + 1 } = some (.bool l[i].2) := by
  rw [← add_succ]; exact (h i hi).2
/-- An owned row of elements, and its two cells at a place. -/
def ownsE (w : World) (base g cap : Nat) (l : List El) : Prop := w.ownsRow base 25 2 (.slice (some ⟨g, 0, none⟩) l.length cap) l.length (rowE l)
theorem ownsE.cell0 {w : World} {base g cap : Nat} {l : List El} (h : ownsE w base g cap l) (i : Nat) (hi : i < l.length) : w.cell? ⟨g, i * 2, none⟩ = some (.int .i64 l[i].1) :=
  (World.ownsRow.cellAt h (i * 2) (by omega)).trans (rowE_get0 l i hi)
theorem ownsE.cell1 {w : World} {base g cap : Nat} {l : List El} (h : ownsE w base g cap l) (i : Nat) (hi : i < l.length) : w.cell? ⟨g, i * 2 + 1, none⟩ = some (.bool l[i].2) :=
  (World.ownsRow.cellAt h (i * 2 + 1) (by omega)).trans (rowE_get1 l i hi)
theorem ownsE.free {w : World} {base g cap : Nat} {l : List El} (h : ownsE w base g cap l) (j : Nat) : w.frozen? ⟨g, j, none⟩ = false := World.ownsRow.frozenAt h j
theorem ownsE.put {w : World} {base g cap : Nat} {l : List El} (h : ownsE w base g cap l) (i : Nat) (e : El) : ownsE ((w.setCell ⟨g, i * 2, none⟩ (.int .i64 e.1)).setCell ⟨g, i * 2 + 1, none⟩ (.bool e.2)) base g cap (l.set i e) := by
  have h1 := (World.ownsRow.stored h (i * 2) (.int .i64 e.1)).1
  have h2 := (World.ownsRow.stored h1 (i * 2 + 1) (.bool e.2)).1
  rw [rowE_set] at h2
  unfold ownsE
  rw [List.length_set]
  exact h2
theorem grown_of_below {w w' : World} (h : Below w.heap.size w w') : w.grownBy w' none := ⟨h.os, h.tape, h.output, h.size, fun k hk _ => h.block k hk⟩
theorem ownsE.below {w w' : World} {base g cap : Nat} {l : List El} (h : ownsE w base g cap l) (hb : Below w.heap.size w w') : ownsE w' base g cap l :=
  World.ownsRow.kept h (grown_of_below hb) (.inr (by simp [Value.ownBlock]))
/-- The state of NumberAdds: a, b; the three sums; the list that is turned. -/
structure St (w : World) (a : Int) (x : Bool) (b : Int) (y : Bool) (G R cap : Nat) (tg pg th ph tk pk : Int) (m : List El) (W : World) : Prop where
  a : W.heap[w.heap.size]? = some (Obj.cells #[.int .i64 (a), .bool x] 25)
  b : W.heap[w.heap.size + 1]? = some (Obj.cells #[.int .i64 (b), .bool y] 25)
  g : W.heap[G]? = some (Obj.cells #[.int .i64 (gH (tg)), .int .u64 (gL (tg)), .int .u64 (pg)] 31)
  h : W.heap[G + 1]? = some (Obj.cells #[.int .i64 (gH (th)), .int .u64 (gL (th)), .int .u64 (ph)] 31)
  k : W.heap[G + 1 + 1]? = some (Obj.cells #[.int .i64 (gH (tk)), .int .u64 (gL (tk)), .int .u64 (pk)] 31)
  own : ownsE W (G + 3) R cap m
  lt : R < W.heap.size
  below : Below w.heap.size w W
theorem St.keep {w : World} {a : Int} {x : Bool} {b : Int} {y : Bool} {G R cap : Nat} {tg pg th ph tk pk : Int} {m : List El} {W W' : World} (h : St w a x b y G R cap tg pg th ph tk pk m W) (hb : Below W.heap.size W W') :
    St w a x b y G R cap tg pg th ph tk pk m W' :=
  ⟨keepB h.a hb, keepB h.b hb, keepB h.g hb, keepB h.h hb, keepB h.k hb, h.own.below hb, Nat.lt_of_lt_of_le h.lt hb.size, h.below.trans (hb.mono h.below.size)⟩
/-- An element of the list is written. -/
theorem St.put {w : World} {a : Int} {x : Bool} {b : Int} {y : Bool} {G R cap : Nat} {tg pg th ph tk pk : Int} {m : List El} {W : World} (h : St w a x b y G R cap tg pg th ph tk pk m W) (hG : w.heap.size + 2 ≤ G) (hR : G + 3 ≤ R) (i : Nat) (e : El) :
    St w a x b y G R cap tg pg th ph tk pk (m.set i e) ((W.setCell ⟨R, i * 2, none⟩ (.int .i64 e.1)).setCell ⟨R, i * 2 + 1, none⟩ (.bool e.2)) := by
  have hb : Below (G + 3) W ((W.setCell ⟨R, i * 2, none⟩ (.int .i64 e.1)).setCell ⟨R, i * 2 + 1, none⟩ (.bool e.2)) := ((Below.refl _ W).setCell (by dsimp only; omega) _).setCell (by dsimp only; omega) _
  exact ⟨(hb.block _ (by omega)).trans h.a, (hb.block _ (by omega)).trans h.b, (hb.block _ (by omega)).trans h.g, (hb.block _ (by omega)).trans h.h, (hb.block _ (by omega)).trans h.k, h.own.put i e,
    Nat.lt_of_lt_of_le h.lt hb.size, h.below.trans (hb.mono (by omega))⟩
def set3 (W : World) (G : Nat) (u v z : Value) : World := ((W.setCell ⟨G, 0, none⟩ u).setCell ⟨G, 1, none⟩ v).setCell ⟨G, 2, none⟩ z
theorem set3_same {W : World} {G : Nat} {t : TypeId} {c0 c1 c2 : Value} (u v z : Value) (h : W.heap[G]? = some (.cells #[c0, c1, c2] t (0, 0))) : (set3 W G u v z).heap[G]? = some (.cells #[u, v, z] t (0, 0)) := by
  have h1 := heap_setCell_same W G 0 _ t u h
  have h2 := heap_setCell_same _ G 1 _ t v h1
  exact heap_setCell_same _ G 2 _ t z h2
theorem set3_other {W : World} {G k : Nat} (u v z : Value) (h : k ≠ G) : (set3 W G u v z).heap[k]? = W.heap[k]? :=
  (heap_setCell_other _ ⟨G, 2, none⟩ k z h).trans ((heap_setCell_other _ ⟨G, 1, none⟩ k v h).trans (heap_setCell_other _ ⟨G, 0, none⟩ k u h))
theorem set3_below {W : World} {B G : Nat} (u v z : Value) (h : B ≤ G) : Below B W (set3 W G u v z) := (((Below.refl _ W).setCell h _).setCell h _).setCell h _
theorem set3_own {W : World} {base B G R cap : Nat} {l : List El} (u v z : Value) (h : ownsE W base R cap l) (hR : R ≠ G) (hB : B ≤ G) : ownsE (set3 W G u v z) base R cap l :=
  World.ownsRow.kept (row := some G) h ⟨(set3_below u v z hB).os, (set3_below u v z hB).tape, (set3_below u v z hB).output, (set3_below u v z hB).size, fun k _ hk => set3_other u v z (fun e => hk (by rw [e]))⟩ (.inr (by simp only [Value.ownBlock, ne_eq, Option.some.injEq]; exact hR))
theorem St.setG {w : World} {a : Int} {x : Bool} {b : Int} {y : Bool} {G R cap : Nat} {tg pg th ph tk pk : Int} {m : List El} {W : World} (h : St w a x b y G R cap tg pg th ph tk pk m W) (hG : w.heap.size + 2 ≤ G) (hR : G + 3 ≤ R) (t p : Int) :
    St w a x b y G R cap t p th ph tk pk m (set3 W G (.int .i64 (gH t)) (.int .u64 (gL t)) (.int .u64 p)) :=
  ⟨(set3_other _ _ _ (by omega)).trans h.a, (set3_other _ _ _ (by omega)).trans h.b, set3_same _ _ _ h.g, (set3_other _ _ _ (by omega)).trans h.h, (set3_other _ _ _ (by omega)).trans h.k,
    set3_own (B := G) _ _ _ h.own (by omega) (by omega), Nat.lt_of_lt_of_le h.lt (set3_below (B := G) _ _ _ (by omega)).size, h.below.trans (set3_below _ _ _ (by omega))⟩
theorem St.setH {w : World} {a : Int} {x : Bool} {b : Int} {y : Bool} {G R cap : Nat} {tg pg th ph tk pk : Int} {m : List El} {W : World} (h : St w a x b y G R cap tg pg th ph tk pk m W) (hG : w.heap.size + 2 ≤ G) (hR : G + 3 ≤ R) (t p : Int) :
    St w a x b y G R cap tg pg t p tk pk m (set3 W (G + 1) (.int .i64 (gH t)) (.int .u64 (gL t)) (.int .u64 p)) :=
  ⟨(set3_other _ _ _ (by omega)).trans h.a, (set3_other _ _ _ (by omega)).trans h.b, (set3_other _ _ _ (by omega)).trans h.g, set3_same _ _ _ h.h, (set3_other _ _ _ (by omega)).trans h.k,
    set3_own (B := G) _ _ _ h.own (by omega) (by omega), Nat.lt_of_lt_of_le h.lt (set3_below (B := G) _ _ _ (by omega)).size, h.below.trans (set3_below _ _ _ (by omega))⟩
theorem St.setK {w : World} {a : Int} {x : Bool} {b : Int} {y : Bool} {G R cap : Nat} {tg pg th ph tk pk : Int} {m : List El} {W : World} (h : St w a x b y G R cap tg pg th ph tk pk m W) (hG : w.heap.size + 2 ≤ G) (hR : G + 3 ≤ R) (t p : Int) :
    St w a x b y G R cap tg pg th ph t p m (set3 W (G + 1 + 1) (.int .i64 (gH t)) (.int .u64 (gL t)) (.int .u64 p)) :=
  ⟨(set3_other _ _ _ (by omega)).trans h.a, (set3_other _ _ _ (by omega)).trans h.b, (set3_other _ _ _ (by omega)).trans h.g, (set3_other _ _ _ (by omega)).trans h.h, set3_same _ _ _ h.k,
    set3_own (B := G) _ _ _ h.own (by omega) (by omega), Nat.lt_of_lt_of_le h.lt (set3_below (B := G) _ _ _ (by omega)).size, h.below.trans (set3_below _ _ _ (by omega))⟩
/-- The world behind a fact, its spelling forgotten. -/
theorem wp_forget {P : Program} {c : Code} {Q : Exit → Act → World → Prop} {a : Act} {w : World} (R : World → Prop) (hR : R w) (h : ∀ w', R w' → c.wp P Q a w') : c.wp P Q a w := h w hR
/-- The smaller state: a, b. -/
structure SA (w : World) (a : Int) (x : Bool) (b : Int) (y : Bool) (W : World) : Prop where
  a : W.heap[w.heap.size]? = some (Obj.cells #[.int .i64 (a), .bool x] 25)
  b : W.heap[w.heap.size + 1]? = some (Obj.cells #[.int .i64 (b), .bool y] 25)
  below : Below w.heap.size w W
theorem SA.keep {w : World} {a : Int} {x : Bool} {b : Int} {y : Bool} {W W' : World} (h : SA w a x b y W) (hb : Below W.heap.size W W') : SA w a x b y W' :=
  ⟨keepB h.a hb, keepB h.b hb, h.below.trans (hb.mono h.below.size)⟩
theorem SA.box {w : World} {a : Int} {x : Bool} {b : Int} {y : Bool} {W : World} (h : SA w a x b y W) (o : Obj) : SA w a x b y (W.alloc o) := h.keep ((Below.refl _ _).alloc (Nat.le_refl _) o)
theorem St.sa {w : World} {a : Int} {x : Bool} {b : Int} {y : Bool} {G R cap : Nat} {tg pg th ph tk pk : Int} {m : List El} {W : World} (h : St w a x b y G R cap tg pg th ph tk pk m W) : SA w a x b y W := ⟨h.a, h.b, h.below⟩
/-- What stands behind the loops: the calls and what they come to. -/
theorem tail_facts (a b : Int) (x y : Bool) (ha : Val a x) (hb : Val b y) : ∃ (N : Int) (O : Bool) (N2 : Int) (O2 : Bool) (T1 P1 T2 P2 : Int), (O = false → N2 = a ∧ O2 = x) ∧
    (∀ W, Calls Try.prog 16 #[.int .i64 1, .agg #[.int .i64 a, .bool x], .agg #[.int .i64 b, .bool y]] W fun e w' => e = .returned (.tuple #[.agg #[.int .i64 N, .bool O], .int .i64 0]) ∧ Below W.heap.size W w') ∧
    (∀ W, Calls Try.prog 16 #[.int .i64 2, .agg #[.int .i64 N, .bool O], .agg #[.int .i64 b, .bool y]] W fun e w' => e = .returned (.tuple #[.agg #[.int .i64 N2, .bool O2], .int .i64 0]) ∧ Below W.heap.size W w') ∧
    (∀ W, Calls Try.prog 13 #[.agg #[.int .i64 0, .int .u64 0, .int .u64 0], .agg #[.int .i64 a, .bool x]] W fun e w' => e = .returned (.agg #[.int .i64 (gH (T1)), .int .u64 (gL (T1)), .int .u64 (P1)]) ∧ Below W.heap.size W w') ∧
    (∀ W, Calls Try.prog 13 #[.agg #[.int .i64 (gH (T1)), .int .u64 (gL (T1)), .int .u64 (P1)], .agg #[.int .i64 b, .bool y]] W fun e w' => e = .returned (.agg #[.int .i64 (gH (T2)), .int .u64 (gL (T2)), .int .u64 (P2)]) ∧ Below W.heap.size W w') ∧
    (∀ W, Calls Try.prog 15 #[.agg #[.int .i64 (gH (T2)), .int .u64 (gL (T2)), .int .u64 (P2)]] W fun e w' => e = .returned (.agg #[.int .i64 N, .bool O]) ∧ Below W.heap.size W w') := by
  refine ⟨opN 1 a x b y, opO 1 a x b y, opN 2 (opN 1 a x b y) (opO 1 a x b y) b y, opO 2 (opN 1 a x b y) (opO 1 a x b y) b y, w128 (0 + ofT a x), lo64 (0 + ofO x), w128 (w128 (0 + ofT a x) + ofT b y), lo64 (lo64 (0 + ofO x) + ofO y),
    add_sub_N ha.1, fun W => do_val 1 a b x y (by omega) (by omega) ha hb W, fun W => do_val 2 _ b _ y (by omega) (by omega) (opN_val _ _ _ _ _) hb W, fun W => put_any 0 0 a x ha.1 W, fun W => put_any _ _ b y hb.1 W, fun W => ?_⟩
  obtain ⟨e1, e2⟩ := add_value a b x y
  rw [← e1, ← e2, put2_T ha.1 hb.1, put2_O]
  refine value_any _ _ ?_ W
  obtain ⟨⟨_, _⟩, _⟩ := ha
  obtain ⟨⟨_, _⟩, _⟩ := hb
  unfold I128 ofT
  split <;> split <;> omega
theorem comm_facts (op a b : Int) (x y : Bool) (h : op = 1 ∨ op = 3) (ha : Val a x) (hb : Val b y) : ∃ (N : Int) (O : Bool),
    (∀ W, Calls Try.prog 16 #[.int .i64 op, .agg #[.int .i64 a, .bool x], .agg #[.int .i64 b, .bool y]] W fun e w' => e = .returned (.tuple #[.agg #[.int .i64 N, .bool O], .int .i64 0]) ∧ Below W.heap.size W w') ∧
    (∀ W, Calls Try.prog 16 #[.int .i64 op, .agg #[.int .i64 b, .bool y], .agg #[.int .i64 a, .bool x]] W fun e w' => e = .returned (.tuple #[.agg #[.int .i64 N, .bool O], .int .i64 0]) ∧ Below W.heap.size W w') := by
  have D2 := fun W => do_val op b a y x (by omega) (by omega) hb ha W
  rw [opN_comm h b a y x, opO_comm h b a y x] at D2
  exact ⟨_, _, fun W => do_val op a b x y (by omega) (by omega) ha hb W, D2⟩
end Go.Proofs.Ytfiinceogenlmaa
