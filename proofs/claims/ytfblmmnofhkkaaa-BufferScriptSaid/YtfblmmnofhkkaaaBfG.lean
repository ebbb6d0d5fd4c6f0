/- A row of acts of a law's own; an owned row as an object. -/
import Derived.Test.YtfblmmnofhkkaaaBfE
import Derived.Laws.OwnMore
namespace Go.Proofs.Ytfblmmnofhkkaaa
open Go.RowKit
/-- The cells of a row of acts. -/
def rowA : List ActV → List Value
  | [] => []
  | e :: l => .int .i64 e.1 :: .int .i64 e.2.1 :: .int .i64 e.2.2 :: rowA l
theorem rowA_len (l : List ActV) : (rowA l).length = l.length * 3 := by
  induction l with
  | nil => rfl
  | cons e l ih => simp only [rowA, List.length_cons, ih]; omega
theorem rowA_get (l : List ActV) (i : Nat) (h : i < l.length) : (rowA l)[i * 3]? = some (.int .i64 l[i].1) ∧ (rowA l)[i * 3 + 1]? = some (.int .i64 l[i].2.1) ∧ (rowA l)[i * 3 + 2]? = some (.int .i64 l[i].2.2) := by
  induction l generalizing i with
  | nil => exact absurd h (by simp)
  | cons e l ih =>
    cases i with
    | zero => exact ⟨rfl, rfl, rfl⟩
    | succ i =>
      have := ih i (by simpa using h)
      rw [show (i + 1) * 3 = i * 3 + 1 + 1 + 1 by omega]
      refine ⟨?_, ?_, ?_⟩
      · simpa only [rowA, List.getElem?_cons_succ, List.getElem_cons_succ] using this.1
      · rw [show i * 3 + 1 + 1 + 1 + 1 = i * 3 + 1 + 1 + 1 + 1 from rfl]
        simpa only [rowA, List.getElem?_cons_succ, List.getElem_cons_succ] using this.2.1
      · rw [show i * 3 + 1 + 1 + 1 + 2 = i * 3 + 1 + 1 + 1 + 1 + 1 from rfl]
        simpa only [rowA, List.getElem?_cons_succ, List.getElem_cons_succ] using this.2.2
theorem rowA_set (l : List ActV) (i : Nat) (e : ActV) : (((rowA l).set (i * 3) (.int .i64 e.1)).set (i * 3 + 1) (.int .i64 e.2.1)).set (i * 3 + 2) (.int .i64 e.2.2) = rowA (l.set i e) := by
  induction l generalizing i with
  | nil => rfl
  | cons d l ih =>
    cases i with
    | zero => rfl
    | succ i =>
      rw [show (i + 1) * 3 + 2 = i * 3 + 2 + 1 + 1 + 1 by omega, show (i + 1) * 3 + 1 = i * 3 + 1 + 1 + 1 + 1 by omega, show (i + 1) * 3 = i * 3 + 1 + 1 + 1 by omega]
      simp only [rowA, List.set_cons_succ, ih]
theorem rowA_one (l : List ActV) : ∀ u ∈ rowA l, u.oneCell' = true := by
  induction l with
  | nil => intro u h; exact absurd h (by simp [rowA])
  | cons e l ih =>
    intro u h
    simp only [rowA, List.mem_cons] at h
    rcases h with rfl | rfl | rfl | h
    · rfl
    · rfl
    · rfl
    · exact ih u h
theorem RAct.reads {w : World} {A : Option Addr} {l : List ActV} (h : RAct w A l) : Reads w w.heap.size 3 A l.length (rowA l) := by
  refine ⟨rowA_len l, fun h0 => ?_⟩
  obtain ⟨a, h1, h2, h3⟩ := h h0
  refine ⟨a, h1, h2, fun j u hu => ?_⟩
  have hj : j < (rowA l).length := by
    rcases Nat.lt_or_ge j (rowA l).length with h | h
    · exact h
    · rw [List.getElem?_eq_none h] at hu; cases hu
  rw [rowA_len] at hj
  have hi : j / 3 < l.length := by omega
  obtain ⟨g0, g1, g2⟩ := rowA_get l _ hi
  obtain ⟨k0, k1, k2⟩ := h3 _ hi
  obtain e | e | e : j = j / 3 * 3 ∨ j = j / 3 * 3 + 1 ∨ j = j / 3 * 3 + 2 := by omega
  · rw [e] at hu ⊢; rw [g0] at hu; rw [← hu]; exact k0
  · rw [e] at hu ⊢; rw [g1] at hu; rw [← hu]; exact k1
  · rw [e] at hu ⊢; rw [g2] at hu; rw [← hu]; exact k2
theorem actInfo : (Try.prog.info? 37).map (fun i => (i.zero, i.size, i.bytes)) = some (some (.agg #[.int .i64 0, .int .i64 0, .int .i64 0]), 3, 24) := by kernel_rfl
theorem actSl : Try.prog.underlying 35 = some (.slice 37) := by kernel_rfl
/-- append of acts onto a row of the call's own. -/
theorem wpL_acts {w : World} {ops : Array Oper} {rest : List Oper} {o : Oper} {a : Act} {Q : Exit → Act → World → Prop} (hgd : o.guard = none) (s x : Operand)
    (ho : o.op = .call { callee := .builtin .append, args := #[s, x], argTypes := #[35, 35] }) (base : Nat)
    (v : Value) (l : List ActV) (hs : a.eval s = v) (hown : w.ownsRow base 37 3 v l.length (rowA l)) (A : Option Addr) (m c : Nat) (news : List ActV) (hx : a.eval x = .slice A m c) (hm : m = news.length) (hr : Reads w w.heap.size 3 A news.length (rowA news))
    (hlen : l.length + news.length ≤ 1099511627776) (hbase : base ≤ w.heap.size)
    (h : ∀ v' w', w'.ownsRow base 37 3 v' (l.length + news.length) (rowA l ++ rowA news) → w.grownBy w' v.ownBlock → (v'.ownBlock = v.ownBlock ∨ v'.ownBlock = some w.heap.size) → wpList Try.prog ops Q rest (a.put o.dst v') w') : wpList Try.prog ops Q (o :: rest) a w := by
  subst hm
  obtain ⟨i, hi, hz, h1, h2⟩ := info_parts actInfo
  exact wpList_append_any w hgd s x 35 ho base 37 i _ 3 24 actSl hi hz h1 h2 rfl (by omega) v l.length (rowA l) hs hown w.heap.size A news.length c (rowA news) hx hr (rowA_one _) (by unfold maxLen; omega) (by omega) hbase
    fun v' w' h3 h4 h5 => h v' w' h3 h4 h5
/-- The same of points. -/
theorem wpL_pts {w : World} {ops : Array Oper} {rest : List Oper} {o : Oper} {a : Act} {Q : Exit → Act → World → Prop} (hgd : o.guard = none) (s x : Operand)
    (ho : o.op = .call { callee := .builtin .append, args := #[s, x], argTypes := #[39, 39] }) (base : Nat)
    (v : Value) (l : List Pt) (hs : a.eval s = v) (hown : w.ownsRow base 45 3 v l.length (pcs l)) (A : Option Addr) (m c : Nat) (news : List Pt) (hx : a.eval x = .slice A m c) (hm : m = news.length) (hr : Reads w w.heap.size 3 A news.length (pcs news))
    (hlen : l.length + news.length ≤ 1099511627776) (hbase : base ≤ w.heap.size)
    (h : ∀ v' w', w'.ownsRow base 45 3 v' (l.length + news.length) (pcs (l ++ news)) → w.grownBy w' v.ownBlock → (v'.ownBlock = v.ownBlock ∨ v'.ownBlock = some w.heap.size) → wpList Try.prog ops Q rest (a.put o.dst v') w') : wpList Try.prog ops Q (o :: rest) a w := by
  subst hm
  obtain ⟨i, hi, hz, h1, h2⟩ := info_parts pInfo
  refine wpList_append_any w hgd s x 39 ho base 45 i _ 3 24 Try.underlying39 hi hz h1 h2 rfl (by omega) v l.length (pcs l) hs hown w.heap.size A news.length c (pcs news) hx hr (pcs_one _) (by unfold maxLen; omega) (by omega) hbase
    fun v' w' h3 h4 h5 => h v' w' ?_ h4 h5
  rw [pcs_append]
  exact h3
/-- The same, where a guard has said yes. -/
theorem wpL_ptsG {w : World} {ops : List Oper} {ts : List Value} {df : List Deferred} {rest : List Oper} {o : Oper} {Q : Exit → Act → World → Prop} (hw : wantB ops ts o.guard = true) (s x : Operand)
    (ho : o.op = .call { callee := .builtin .append, args := #[s, x], argTypes := #[39, 39] }) (base : Nat)
    (v : Value) (l : List Pt) (hs : Act.eval { tmps := ts.toArray, defers := df } s = v) (hown : w.ownsRow base 45 3 v l.length (pcs l)) (A : Option Addr) (m c : Nat) (news : List Pt) (hx : Act.eval { tmps := ts.toArray, defers := df } x = .slice A m c) (hm : m = news.length) (hr : Reads w w.heap.size 3 A news.length (pcs news))
    (hlen : l.length + news.length ≤ 1099511627776) (hbase : base ≤ w.heap.size)
    (h : ∀ v' w', w'.ownsRow base 45 3 v' (l.length + news.length) (pcs (l ++ news)) → w.grownBy w' v.ownBlock → (v'.ownBlock = v.ownBlock ∨ v'.ownBlock = some w.heap.size) → wpList Try.prog ops.toArray Q rest (Act.put { tmps := ts.toArray, defers := df } o.dst v') w') : wpList Try.prog ops.toArray Q (o :: rest) { tmps := ts.toArray, defers := df } w := by
  subst hm
  obtain ⟨i, hi, hz, h1, h2⟩ := info_parts pInfo
  refine wpList_step fun K hK => ?_
  have hw' : Region.wanted o (yielded ops.toArray ts.toArray) = true := wantB_spec hw
  simp only [hw', if_true]
  refine wp_append_any w s x 39 ho base 45 i _ 3 24 Try.underlying39 hi hz h1 h2 rfl (by omega) v l.length (pcs l) hs hown w.heap.size A news.length c (pcs news) hx hr (pcs_one _) (by unfold maxLen; omega) (by omega) hbase
    fun v' w' h3 h4 h5 => hK _ _ (h v' w' ?_ h4 h5)
  rw [pcs_append]
  exact h3
/-- A row of the law's own, as the kit says it, as an object. -/
def OwnO (e : TypeId) (size : Nat) (v : Value) (n : Nat) (xs : List Value) : Ob := fun w F => w.ownsRow 0 e size v n xs ∧ ∀ g, v.ownBlock = some g → F g
theorem or_keep {w w' : World} {base : Nat} {e : TypeId} {size : Nat} {v : Value} {n : Nat} {xs : List Value} (h : w.ownsRow base e size v n xs) (hk : ∀ g, v.ownBlock = some g → w'.heap[g]? = w.heap[g]?) : w'.ownsRow base e size v n xs :=
  ⟨h.1, h.2.imp id fun ⟨g, cap, cur, h1, h2, h3, h4⟩ => ⟨g, cap, cur, h1, h2, (hk g (by rw [h1]; rfl)).trans h3, h4⟩⟩
theorem OwnO.obj (e : TypeId) (size : Nat) (v : Value) (n : Nat) (xs : List Value) : Obj1 (OwnO e size v n xs) where
  keep := fun h ho hn => ⟨or_keep h.1 (fun g hg => ho.block g (h.1.lt g hg).2 (hn g (h.2 g hg) (h.1.lt g hg).2)), h.2⟩
  old := fun h => ⟨h.1, fun g hg => ⟨h.2 g hg, (h.1.lt g hg).2⟩⟩
  weak := fun h hG => ⟨h.1, fun g hg => hG g (h.1.lt g hg).2 (h.2 g hg)⟩
theorem LM.own {A : Ob} {w0 w w' : World} {base : Nat} {e : TypeId} {size : Nat} {v : Value} {n : Nat} {xs : List Value} (hA : Obj1 A) (h : LM w0 A w) (hb : Below w.heap.size w w') (hr : w'.ownsRow base e size v n xs) (hs : w.heap.size ≤ base) : LM w0 (Star A (OwnO e size v n xs)) w' :=
  h.more hA hb (F := fun k => w.heap.size ≤ k) ⟨or_base hr (Nat.zero_le _), fun g hg => Nat.le_trans hs (hr.lt g hg).1⟩ (fun _ h => h)
theorem LM.goes2 {A B B' : Ob} {w0 w w' : World} (hA : Obj1 A) (h : LM w0 (Star A B) w) (hg : ∀ G, B w G → Goes B' G w w') : LM w0 (Star A B') w' :=
  h.goes (fun _ ⟨_, G, h1, h2, h3, h4, h5⟩ => Star.goes2 hA h1 h3 h4 h5 (hg G h2))
theorem LM.got {A : Ob} {w0 w : World} {e : TypeId} {size : Nat} {v : Value} {n : Nat} {xs : List Value} (h : LM w0 (Star A (OwnO e size v n xs)) w) : w.ownsRow 0 e size v n xs := by
  obtain ⟨_, F, ⟨_, G, _, h2, _⟩, _⟩ := h
  exact h2.1
theorem own_goes {w w' : World} {G : Nat → Prop} {e : TypeId} {size : Nat} {v v' : Value} {n n' : Nat} {xs xs' : List Value} (h : OwnO e size v n xs w G) (hg : w.grownBy w' v.ownBlock) (hr : w'.ownsRow 0 e size v' n' xs') (hv : v'.ownBlock = v.ownBlock ∨ v'.ownBlock = some w.heap.size) : Goes (OwnO e size v' n' xs') G w w' := by
  refine ⟨fun k => v'.ownBlock = some k, ⟨hr, fun g hg => hg⟩, fun k hk => ⟨?_, (hr.lt k hk).2⟩, ⟨hg.os, hg.tape, hg.output, hg.size, fun k hk hn => hg.block k hk (fun e => hn (h.2 k e.symm))⟩⟩
  rcases hv with h1 | h1
  · exact .inl (h.2 k (h1 ▸ hk))
  · rw [h1] at hk; cases hk; exact .inr (Nat.le_refl _)
/-- The law's acts. -/
abbrev ActO (M : Option Addr) (cap : Nat) (n : Nat) (m : List ActV) : Ob := OwnO 37 3 (.slice M n cap) n (rowA m)
section
variable {w : World} {g cap n : Nat} {m : List ActV}
theorem act_cell (h : w.ownsRow 0 37 3 (.slice (some ⟨g, 0, none⟩) n cap) n (rowA m)) (i : Nat) (hi : i < m.length) :
    w.cell? ⟨g, i * 3, none⟩ = some (.int .i64 m[i].1) ∧ w.cell? ⟨g, i * 3 + 1, none⟩ = some (.int .i64 m[i].2.1) ∧ w.cell? ⟨g, i * 3 + 2, none⟩ = some (.int .i64 m[i].2.2) := by
  obtain ⟨g0, g1, g2⟩ := rowA_get m i hi
  exact ⟨or_cell h g0, or_cell h g1, or_cell h g2⟩
theorem act_put (h : w.ownsRow 0 37 3 (.slice (some ⟨g, 0, none⟩) n cap) n (rowA m)) (i : Nat) (e : ActV) :
    (((w.setCell ⟨g, i * 3, none⟩ (.int .i64 e.1)).setCell ⟨g, i * 3 + 1, none⟩ (.int .i64 e.2.1)).setCell ⟨g, i * 3 + 2, none⟩ (.int .i64 e.2.2)).ownsRow 0 37 3 (.slice (some ⟨g, 0, none⟩) n cap) n (rowA (m.set i e)) := by
  have h1 := (World.ownsRow.stored h (i * 3) (.int .i64 e.1)).1
  have h2 := (World.ownsRow.stored h1 (i * 3 + 1) (.int .i64 e.2.1)).1
  have h3 := (World.ownsRow.stored h2 (i * 3 + 2) (.int .i64 e.2.2)).1
  rw [rowA_set] at h3
  exact h3
end
end Go.Proofs.Ytfblmmnofhkkaaa
