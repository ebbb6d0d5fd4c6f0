/- A queue: Put. -/
import Derived.Test.YtjnkcgegmffncaaQuT
namespace Go.Proofs.Ytjnkcgegmffncaa
open Go.RowKit
theorem mod_ne2 {a j k N : Nat} (ha : a < N) (hj : j < k) (hk : k < N) : (a + j) % N ≠ (a + k) % N := by
  by_cases h : a + k < N
  · rw [Nat.mod_eq_of_lt h, Nat.mod_eq_of_lt (by omega)]; omega
  · rw [Nat.mod_eq_sub_mod (a := a + k) (by omega), Nat.mod_eq_of_lt (a := a + k - N) (by omega)]
    by_cases h2 : a + j < N
    · rw [Nat.mod_eq_of_lt h2]; omega
    · rw [Nat.mod_eq_sub_mod (by omega), Nat.mod_eq_of_lt (by omega)]; omega
/-- Items in a slice, in memory of G. -/
structure RdIts (w : World) (G : Nat → Prop) (A : Option Addr) (n : Nat) (X : List It) : Prop where
  len : X.length = n
  row : Reads w w.heap.size 8 A n (rowF itc X)
  rowG : 0 < n → ∀ ad, A = some ad → G ad.block
  its : ∀ x ∈ X, ItIn w G x.2.2.1.1 x.2.2.1.2.2 x.2.2.2.2.2.2.2.1 x.2.2.2.2.2.2.2.2.2
  sm : ∀ x ∈ X, smI (itC x)
theorem RdIts.keep {w w' : World} {G S : Nat → Prop} {A : Option Addr} {n : Nat} {X : List It} (h : RdIts w G A n X) (ho : Only S w w') (hn : ∀ k, G k → k < w.heap.size → ¬ S k) : RdIts w' G A n X where
  len := h.len
  row := ⟨h.row.1, fun h0 => by
    obtain ⟨ad, e, hb, hc⟩ := h.row.2 h0
    exact ⟨ad, e, Nat.lt_of_lt_of_le hb ho.size, fun j u hu => (ho.cell (by rw [block_of_add]; exact hb) (by rw [block_of_add]; exact hn _ (h.rowG h0 ad e) hb)).trans (hc j u hu)⟩⟩
  rowG := h.rowG
  its := fun x hx => (h.its x hx).keep ho hn
  sm := h.sm
theorem RdIts.below {w w' : World} {G : Nat → Prop} {A : Option Addr} {n : Nat} {X : List It} (h : RdIts w G A n X) (hb : Below w.heap.size w w') : RdIts w' G A n X := h.keep (S := fun _ => False) (Only.of_below hb) (fun _ _ _ h => h)
theorem RdIts.some_ {w : World} {G : Nat → Prop} {A : Option Addr} {n : Nat} {X : List It} (h : RdIts w G A n X) (h0 : 0 < n) : ∃ ad, A = some ad ∧ ad.block < w.heap.size := by
  obtain ⟨ad, e, hb, _⟩ := h.row.2 h0; exact ⟨ad, e, hb⟩
/-- An item of a slice, in the walk's spelling. -/
theorem RdIts.at_ {w : World} {G : Nat → Prop} {ad : Addr} {nn : Nat} {X : List It} (h : RdIts w G (some ad) nn X) {j : Nat} (hj : j < X.length) {k t n tm bt : Int} {m : ByteArray} {la ca : Option Addr} {lc cc : Nat} {L : List Lb} {C : List Cg} (hx : X[j] = (k, m, (la, lc, L), t, n, tm, bt, ca, cc, C)) :
    w.cell? (ad.add (j * 8)) = some (.int .i64 k) ∧ w.cell? { block := (ad.add (j * 8)).block, off := (ad.add (j * 8)).off + 1 } = some (.string m) ∧ w.cell? { block := (ad.add (j * 8)).block, off := (ad.add (j * 8)).off + 2 } = some (.slice la L.length lc) ∧ w.cell? { block := (ad.add (j * 8)).block, off := (ad.add (j * 8)).off + 3 } = some (.int .i64 t) ∧
    w.cell? { block := (ad.add (j * 8)).block, off := (ad.add (j * 8)).off + 4 } = some (.int .i64 n) ∧ w.cell? { block := (ad.add (j * 8)).block, off := (ad.add (j * 8)).off + 5 } = some (.int .i64 tm) ∧ w.cell? { block := (ad.add (j * 8)).block, off := (ad.add (j * 8)).off + 6 } = some (.int .i64 bt) ∧ w.cell? { block := (ad.add (j * 8)).block, off := (ad.add (j * 8)).off + 7 } = some (.slice ca C.length cc) :=
  ⟨row_at (f := itc) (s := 8) (fun _ => rfl) h.row hj h.len (by decide) (by rw [hx]; rfl), row_atI (f := itc) (s := 8) (fun _ => rfl) h.row hj h.len 1 (by decide) (by decide) (by rw [hx]; rfl), row_atI (f := itc) (s := 8) (fun _ => rfl) h.row hj h.len 2 (by decide) (by decide) (by rw [hx]; rfl), row_atI (f := itc) (s := 8) (fun _ => rfl) h.row hj h.len 3 (by decide) (by decide) (by rw [hx]; rfl),
   row_atI (f := itc) (s := 8) (fun _ => rfl) h.row hj h.len 4 (by decide) (by decide) (by rw [hx]; rfl), row_atI (f := itc) (s := 8) (fun _ => rfl) h.row hj h.len 5 (by decide) (by decide) (by rw [hx]; rfl), row_atI (f := itc) (s := 8) (fun _ => rfl) h.row hj h.len 6 (by decide) (by decide) (by rw [hx]; rfl), row_atI (f := itc) (s := 8) (fun _ => rfl) h.row hj h.len 7 (by decide) (by decide) (by rw [hx]; rfl)⟩
section
variable {w w9 : World} {F : Nat → Prop} {q N r a : Nat} {c : Array Value} {Q : List ItC}
/-- What a Put of one item leaves. -/
theorem QuC.put (h : QuC w F q N r a c Q) (hl : Q.length < N) {k t n tm bt : Int} {m : ByteArray} {la ca : Option Addr} {lc cc : Nat} {L : List Lb} {C : List Cg} {y : ItC} (hy : itC (k, m, (la, lc, L), t, n, tm, bt, ca, cc, C) = y) (hs : smI y) (ho : Only (fun i => F i ∧ (i = q ∨ i = r) ∨ w.heap.size ≤ i) w w9) (hin : ItIn w9 (fun i => w.heap.size ≤ i) la L ca C)
    {l1 l2 s qn : Nat} (hl1 : L.length = l1) (hl2 : C.length = l2) (hsl : (a + Q.length) % N = s) (hqn : Q.length + 1 = qn)
    (hq : w9.heap[q]? = some (.cells #[.slice (some ⟨r, 0, none⟩) N N, .int .i64 (a : Int), .int .i64 (qn : Int)] 59 (0, 0)))
    (hr : w9.heap[r]? = some (.cells (put8 c (s * 8) (.int .i64 k) (.string m) (.slice la l1 lc) (.int .i64 t) (.int .i64 n) (.int .i64 tm) (.int .i64 bt) (.slice ca l2 cc)) 38 (0, 0))) : Goes (QuO q N (Q ++ [y])) F w w9 := by
  subst hl1 hl2 hsl hqn
  have hO : Only F w w9 := ⟨ho.os, ho.tape, ho.output, ho.size, fun k hk hn => ho.block k hk (fun e => by
    rcases e with e | e
    · exact hn e.1
    · omega)⟩
  have hmod : (a + Q.length) % N < N := mod_lt_ (by omega)
  have hql := only_lt h.que
  have hrl := only_lt h.ring
  have hits : RingAt w9 (fun k => ((F k ∨ w.heap.size ≤ k) ∧ k < w9.heap.size) ∧ k ≠ q ∧ k ≠ r) (put8 c ((a + Q.length) % N * 8) (.int .i64 k) (.string m) (.slice la L.length lc) (.int .i64 t) (.int .i64 n) (.int .i64 tm) (.int .i64 bt) (.slice ca C.length cc)) N a (Q ++ [y]) := fun j hj => by
    by_cases hjQ : j < Q.length
    · obtain ⟨x, h1, h2, h3⟩ := h.its j hjQ
      refine ⟨x, h1.other (mod_ne2 h.lt hjQ hl), by rw [List.getElem_append_left hjQ]; exact h2, (h3.keep ho (fun k hk hkl e => ?_)).weak (fun k hkl hk => ⟨⟨.inl hk.1, hkl⟩, hk.2⟩)⟩
      rcases e with ⟨_, e | e⟩ | e
      · exact hk.2.1 e
      · exact hk.2.2 e
      · omega
    · have hje : j = Q.length := by simp at hj; omega
      subst hje
      refine ⟨(k, m, (la, lc, L), t, n, tm, bt, ca, cc, C), SlotAt.put (k, m, (la, lc, L), t, n, tm, bt, ca, cc, C) (by rw [h.size]; exact slot_in hmod), by rw [List.getElem_append_right (Nat.le_refl _)]; simpa using hy, hin.weak (fun i hil hi => ?_)⟩
      have hi2 : w.heap.size ≤ i := hi
      exact ⟨⟨.inr hi2, hil⟩, by omega, by omega⟩
  have hQ : QuC w9 (fun k => (F k ∨ w.heap.size ≤ k) ∧ k < w9.heap.size) q N r a (put8 c ((a + Q.length) % N * 8) (.int .i64 k) (.string m) (.slice la L.length lc) (.int .i64 t) (.int .i64 n) (.int .i64 tm) (.int .i64 bt) (.slice ca C.length cc)) (Q ++ [y]) :=
    { inq := ⟨.inl h.inq, only_lt hq⟩
      inr := ⟨.inl h.inr, only_lt hr⟩
      ne := h.ne
      que := by rw [List.length_append]; exact hq
      ring := hr
      size := by rw [put8_size]; exact h.size
      lt := h.lt
      le := h.le
      len := by rw [List.length_append]; simp; omega
      sm := fun x hx => by
        rcases List.mem_append.1 hx with hx | hx
        · exact h.sm x hx
        · rw [List.mem_singleton.1 hx]; exact hs
      its := hits }
  exact ⟨_, ⟨r, _, _, hQ⟩, fun k hk => hk, hO⟩
end
end Go.Proofs.Ytjnkcgegmffncaa
