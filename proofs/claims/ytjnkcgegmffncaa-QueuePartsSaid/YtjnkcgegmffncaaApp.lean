/- 'x.f = append(x.f, v)' in a region whose order is open: the new element's block and the append as steps of their own. No program. -/
import Derived.Test.YtjnkcgegmffncaaOwn
import Derived.Test.YtjnkcgegmffncaaRegT
namespace Go.Proofs.Ytjnkcgegmffncaa
open Go.RowKit
/-- What lasts while blocks of S are written: some blocks, as they are. -/
structure FC (wr : World) (S : Nat → Prop) (fs : List (Nat × Obj)) (W : World) : Prop where
  only : Only S wr W
  facts : ∀ p ∈ fs, W.heap[p.1]? = some p.2
section
variable {wr w w' W : World} {S : Nat → Prop} {fs : List (Nat × Obj)}
theorem FC.get (h : FC wr S fs W) (i : Nat) {b : Nat} {o : Obj} (hi : fs[i]? = some (b, o)) : W.heap[b]? = some o := h.facts (b, o) (List.mem_of_getElem? hi)
theorem FC.stab : Stab (FC wr S fs) := fun _ _ h hb => ⟨h.only.trans (Only.of_below hb), fun p hp => keepB (h.facts p hp) hb⟩
theorem FC.step (hn : ∀ p ∈ fs, ¬ S p.1) : ∀ w w', FC wr S fs w → Only S w w' → FC wr S fs w' := fun _ _ h ho => ⟨h.only.trans ho, fun p hp => ho.get (h.facts p hp) (hn p hp)⟩
end
def D0 (wr : World) (W : World) : Prop := Below wr.heap.size wr W
def D6 (wr : World) (e : TypeId) (cs : Array Value) (v : Value) (W : World) : Prop := Below wr.heap.size wr W ∧ ∃ H, wr.heap.size ≤ H ∧ v = .slice (some ⟨H, 0, none⟩) 1 1 ∧ W.heap[H]? = some (.cells cs e (0, 0))
def D7 (wr : World) (S : Nat → Prop) (e : TypeId) (size n : Nat) (xs : List Value) (v : Value) (W : World) : Prop := ∃ w2, Below wr.heap.size wr w2 ∧ RowAt W (fun k => S k ∨ k = w2.heap.size) e size v n xs ∧ Only S w2 W
theorem D0.stab (wr : World) : Stab (D0 wr) := fun _ _ (h : Below _ _ _) hb => show Below _ _ _ from h.trans (hb.mono h.size)
theorem D6.stab (wr : World) (e : TypeId) (cs : Array Value) (v : Value) : Stab (D6 wr e cs v) := fun _ _ h hb => by
  obtain ⟨h1, H, h2, h3, h4⟩ := h
  exact ⟨h1.trans (hb.mono h1.size), H, h2, h3, keepB h4 hb⟩
theorem D7.stab (wr : World) (S : Nat → Prop) (e : TypeId) (size n : Nat) (xs : List Value) (v : Value) : Stab (D7 wr S e size n xs v) := fun _ _ h hb => by
  obtain ⟨w2, h1, h2, h3⟩ := h
  exact ⟨w2, h1, h2.below hb, h3.trans (Only.of_below hb)⟩
section
variable {Φ : Phi} {P : Program} {ts : List Value} {df : List Deferred} {E : (World → Prop) → (World → Prop) → Act → Prop} {r : List (Nat × Bool)} {C : World → Prop} {i : Nat} {o : Oper} {lo : List Oper}
theorem bs_res {wr w : World} {S : Nat → Prop} {fs : List (Nat × Obj)} {e : TypeId} {cs : Array Value} (hc : FC wr S fs w) (hd : Below wr.heap.size wr w) {v : Value} (hv : v = .slice (some ⟨w.heap.size, 0, none⟩) 1 1) :
    stepRes P (stepR (FC wr S fs) (fun _ => Triv) (D6 wr e cs)) (.ok (.value v) (w.alloc (.cells cs e))) := by
  subst hv
  exact ⟨FC.stab _ _ hc (below_alloc (Below.refl _ _) _), triv _, below_alloc hd _, w.heap.size, hd.size, rfl, newB _ _⟩
theorem wt_bs {wr : World} {S : Nat → Prop} {fs : List (Nat × Obj)} (e : TypeId) (cs : Array Value) (hφ : Φ i = none) (ho : nthO lo i = some o) (hw : wantB lo ts o.guard = true)
    (hl : ∀ w, FC wr S fs w → Below wr.heap.size wr w → stepRes P (stepR (FC wr S fs) (fun _ => Triv) (D6 wr e cs)) ((execOp (Act.eval { tmps := ts.toArray, defers := df }) o).run P w))
    (h : ∀ K : (World → Prop) → (World → Prop) → Act → Prop, Shut (∀ C D a, WpT Φ P lo E r C D a → K C D a) → ∀ v, K (fun w => FC wr S fs w ∧ Triv w) (D6 wr e cs v) (Act.put { tmps := ts.toArray, defers := df } o.dst v)) :
    WpT Φ P lo E ((i, true) :: r) (FC wr S fs) (D0 wr) { tmps := ts.toArray, defers := df } :=
  wt_step hφ (fun _ => Triv) (D6 wr e cs) (fun _ _ _ _ _ => triv _) (fun v => D6.stab wr e cs v) ho hw hl h
/-- The append's run: what it leaves. -/
theorem ap_run {wr w : World} {S : Nat → Prop} {fs : List (Nat × Obj)} {cs : Array Value} (t ty e : TypeId) (it : TypeInfo) (z : Value) (size bytes : Nat) (ht : P.underlying t = some (.slice e)) (hi : P.info? e = some it) (hz : it.zero = some z)
    (hsize : it.size = size) (hby : it.bytes = bytes) (hzs : z.cells.size = size) {F : Nat → Prop} {rv : Value} {n : Nat} {xs : List Value} (hrow : RowAt wr F e size rv n xs) (hS : ∀ k, S k ↔ rv.ownBlock = some k) (hn : ∀ p ∈ fs, ¬ S p.1)
    (hl : cs.toList.length = size) (h1 : ∀ u ∈ cs.toList, u.oneCell' = true) (h63 : n + 1 ≤ 1099511627776) (hbb : bytes ≤ 64) {v : Value} (hc : FC wr S fs w ∧ Triv w) (hd : D6 wr e cs v w) :
    ∃ u w', (Builtin.append_ #[t, t] ty #[rv, v]).run P w = .ok u w' ∧ stepR (fun w => FC wr S fs w ∧ Triv w) (fun _ => Triv) (D7 wr S e size (n + 1) (xs ++ cs.toList)) u w' := by
  obtain ⟨hb, H, h2, rfl, h4⟩ := hd
  obtain ⟨u, w', hr, g1, g2, _⟩ := run_append_row (P := P) w t ty e it z size bytes ht hi hz hsize hby hzs F rv n xs (hrow.below hb) ⟨H, 0, none⟩ 1 1 cs.toList (by omega) (by rw [hl, Nat.one_mul]) (World.news_of_block h4) h1 (by unfold maxLen; omega) (by
    have : (n + 1) * bytes ≤ 1099511627776 * 64 := Nat.mul_le_mul h63 hbb
    omega)
  have g3 : Only S w w' := g2.mono (fun k _ hk => (hS k).2 hk)
  refine ⟨u, w', hr, ⟨FC.step hn _ _ hc.1 g3, triv _⟩, triv _, w, hb, g1.weak (fun k _ hk => hk.imp (hS k).2 id), g3⟩
theorem st_ap {R : Value → World → Prop} {o : Oper} {a : Act} {w w' : World} {t : TypeId} {rv v u : Value} (s x : Operand) (hop : o.op = .call { callee := .builtin .append, args := #[s, x], argTypes := #[t, t] }) (hs : a.eval s = rv) (hx : a.eval x = v)
    (hrun : (Builtin.append_ #[t, t] o.type #[rv, v]).run P w = .ok u w') (hres : R u w') : stepRes P R ((execOp a.eval o).run P w) := by
  unfold execOp
  simp only [hop, resolve, invoke, builtin, Sem.run_bind, Sem.run_pure, Result.andThen_ok, List.map_toArray, List.map_cons, List.map_nil, hs, hx, hrun]
  exact hres
theorem wt_ap {wr : World} {S : Nat → Prop} {fs : List (Nat × Obj)} {e : TypeId} {cs : Array Value} {v : Value} (size n : Nat) (xs : List Value) (hφ : Φ i = none) (ho : nthO lo i = some o) (hw : wantB lo ts o.guard = true)
    (hl : ∀ w, (FC wr S fs w ∧ Triv w) → D6 wr e cs v w → stepRes P (stepR (fun w => FC wr S fs w ∧ Triv w) (fun _ => Triv) (D7 wr S e size n xs)) ((execOp (Act.eval { tmps := ts.toArray, defers := df }) o).run P w))
    (h : ∀ K : (World → Prop) → (World → Prop) → Act → Prop, Shut (∀ C D a, WpT Φ P lo E r C D a → K C D a) → ∀ u, K (fun w => (FC wr S fs w ∧ Triv w) ∧ Triv w) (D7 wr S e size n xs u) (Act.put { tmps := ts.toArray, defers := df } o.dst u)) :
    WpT Φ P lo E ((i, true) :: r) (fun w => FC wr S fs w ∧ Triv w) (D6 wr e cs v) { tmps := ts.toArray, defers := df } :=
  wt_step hφ (fun _ => Triv) (D7 wr S e size n xs) (fun _ _ _ _ _ => triv _) (fun u => D7.stab wr S e size n xs u) ho hw hl h
end
end Go.Proofs.Ytjnkcgegmffncaa
