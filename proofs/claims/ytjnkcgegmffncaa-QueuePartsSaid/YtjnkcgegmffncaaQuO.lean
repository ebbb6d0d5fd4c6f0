/- A queue in memory; New, right, Len, Room. -/
import Derived.Test.YtjnkcgegmffncaaOwi
import Derived.Laws.MakeOwn
namespace Go.Proofs.Ytjnkcgegmffncaa
open Go.RowKit
/-! ### A slot of the ring -/
/-- An item's cells stored at o. -/
def put8 (c : Array Value) (o : Nat) (v0 v1 v2 v3 v4 v5 v6 v7 : Value) : Array Value :=
  (((((((c.setIfInBounds o v0).setIfInBounds (o + 1) v1).setIfInBounds (o + 2) v2).setIfInBounds (o + 3) v3).setIfInBounds (o + 4) v4).setIfInBounds (o + 5) v5).setIfInBounds (o + 6) v6).setIfInBounds (o + 7) v7
section
variable {c : Array Value} {o : Nat} {v0 v1 v2 v3 v4 v5 v6 v7 : Value}
theorem put8_size : (put8 c o v0 v1 v2 v3 v4 v5 v6 v7).size = c.size := by simp [put8]
theorem put8_in (h : o + 7 < c.size) (i : Nat) (hi : i < 8) : (put8 c o v0 v1 v2 v3 v4 v5 v6 v7)[o + i]? = [v0, v1, v2, v3, v4, v5, v6, v7][i]? := by
  unfold put8
  simp only [Array.getElem?_setIfInBounds, Array.size_setIfInBounds]
  obtain rfl | rfl | rfl | rfl | rfl | rfl | rfl | rfl : i = 0 ∨ i = 1 ∨ i = 2 ∨ i = 3 ∨ i = 4 ∨ i = 5 ∨ i = 6 ∨ i = 7 := by omega
  all_goals
    simp
    omega
theorem put8_out (j : Nat) (hj : j < o ∨ o + 8 ≤ j) : (put8 c o v0 v1 v2 v3 v4 v5 v6 v7)[j]? = c[j]? := by
  unfold put8
  simp only [Array.getElem?_setIfInBounds, Array.size_setIfInBounds]
  rw [if_neg (by omega), if_neg (by omega), if_neg (by omega), if_neg (by omega), if_neg (by omega), if_neg (by omega), if_neg (by omega), if_neg (by omega)]
end
/-- An item lies in slot s of the ring. -/
def SlotAt (c : Array Value) (s : Nat) (x : It) : Prop := ∀ i, i < 8 → c[s * 8 + i]? = (itc x)[i]?
theorem SlotAt.put {c : Array Value} {s : Nat} (x : It) (h : s * 8 + 7 < c.size) : SlotAt (put8 c (s * 8) (.int .i64 x.1) (.string x.2.1) (lsV x.2.2.1) (.int .i64 x.2.2.2.1) (.int .i64 x.2.2.2.2.1) (.int .i64 x.2.2.2.2.2.1) (.int .i64 x.2.2.2.2.2.2.1) (.slice x.2.2.2.2.2.2.2.1 x.2.2.2.2.2.2.2.2.2.length x.2.2.2.2.2.2.2.2.1)) s x :=
  fun i hi => put8_in h i hi
theorem SlotAt.other {c : Array Value} {s s' : Nat} {x : It} {v0 v1 v2 v3 v4 v5 v6 v7 : Value} (h : SlotAt c s x) (hne : s ≠ s') : SlotAt (put8 c (s' * 8) v0 v1 v2 v3 v4 v5 v6 v7) s x :=
  fun i hi => by rw [put8_out _ (by omega)]; exact h i hi
/-- An item that is small. -/
def smI (x : ItC) : Prop := smallS x.2.1 x.2.2.1 ∧ In64 x.2.2.2.2.1 ∧ x.2.2.2.2.2.2.2.length ≤ 40 ∧ ∀ c ∈ x.2.2.2.2.2.2.2, smallL c.1 ∧ In64 c.2.1
/-- The items of a queue: they lie in the ring from at on. -/
def RingAt (w : World) (F : Nat → Prop) (c : Array Value) (N at_ : Nat) (Q : List ItC) : Prop :=
  ∀ j (hj : j < Q.length), ∃ x : It, SlotAt c ((at_ + j) % N) x ∧ itC x = Q[j] ∧ ItIn w F x.2.2.1.1 x.2.2.1.2.2 x.2.2.2.2.2.2.2.1 x.2.2.2.2.2.2.2.2.2
/-- A queue. -/
structure QuC (w : World) (F : Nat → Prop) (q N r at_ : Nat) (c : Array Value) (Q : List ItC) : Prop where
  inq : F q
  inr : F r
  ne : q ≠ r
  que : w.heap[q]? = some (.cells #[.slice (some ⟨r, 0, none⟩) N N, .int .i64 (at_ : Int), .int .i64 (Q.length : Int)] 59 (0, 0))
  ring : w.heap[r]? = some (.cells c 38 (0, 0))
  size : c.size = N * 8
  lt : at_ < N
  le : N ≤ 4096
  len : Q.length ≤ N
  its : RingAt w (fun k => F k ∧ k ≠ q ∧ k ≠ r) c N at_ Q
  sm : ∀ x ∈ Q, smI x
def QuO (q N : Nat) (Q : List ItC) : Ob := fun w F => ∃ r at_ c, QuC w F q N r at_ c Q
theorem RingAt.keep {w w' : World} {F S : Nat → Prop} {c : Array Value} {N a : Nat} {Q : List ItC} (h : RingAt w F c N a Q) (ho : Only S w w') (hn : ∀ k, F k → k < w.heap.size → ¬ S k) : RingAt w' F c N a Q := fun j hj => by
  obtain ⟨x, h1, h2, h3⟩ := h j hj; exact ⟨x, h1, h2, h3.keep ho hn⟩
theorem RingAt.weak {w : World} {F G : Nat → Prop} {c : Array Value} {N a : Nat} {Q : List ItC} (h : RingAt w F c N a Q) (hG : ∀ k, k < w.heap.size → F k → G k) : RingAt w G c N a Q := fun j hj => by
  obtain ⟨x, h1, h2, h3⟩ := h j hj; exact ⟨x, h1, h2, h3.weak hG⟩
theorem QuC.keep {w w' : World} {F S : Nat → Prop} {q N r a : Nat} {c : Array Value} {Q : List ItC} (h : QuC w F q N r a c Q) (ho : Only S w w') (hn : ∀ k, F k → k < w.heap.size → ¬ S k) : QuC w' F q N r a c Q :=
  { h with que := ho.get h.que (hn q h.inq (only_lt h.que)), ring := ho.get h.ring (hn r h.inr (only_lt h.ring)), its := h.its.keep ho (fun k hk => hn k hk.1) }
theorem QuC.below {w w' : World} {F : Nat → Prop} {q N r a : Nat} {c : Array Value} {Q : List ItC} (h : QuC w F q N r a c Q) (hb : Below w.heap.size w w') : QuC w' F q N r a c Q := h.keep (S := fun _ => False) (Only.of_below hb) (fun _ _ _ h => h)
theorem QuO.obj (q N : Nat) (Q : List ItC) : Obj1 (QuO q N Q) where
  keep := fun ⟨r, a, c, h⟩ ho hn => ⟨r, a, c, h.keep ho hn⟩
  old := fun ⟨r, a, c, h⟩ => ⟨r, a, c, { h with inq := ⟨h.inq, only_lt h.que⟩, inr := ⟨h.inr, only_lt h.ring⟩, its := h.its.weak (fun _ hk hF => ⟨⟨hF.1, hk⟩, hF.2⟩) }⟩
  weak := fun ⟨r, a, c, h⟩ hG => ⟨r, a, c, { h with inq := hG q (only_lt h.que) h.inq, inr := hG r (only_lt h.ring) h.inr, its := h.its.weak (fun k hk hF => ⟨hG k hk hF.1, hF.2⟩) }⟩
abbrev qptr (q : Nat) : Value := .pointer (some ⟨q, 0, none⟩)
theorem infoIt : (Try.prog.info? 38).map (fun i => (i.zero, i.size, i.bytes)) = some (some (.agg #[.int .i64 0, .string ⟨#[]⟩, .slice none 0 0, .int .i64 0, .int .i64 0, .int .i64 0, .int .i64 0, .slice none 0 0]), 8, 104) := by kernel_rfl
set_option maxRecDepth 100000 in
theorem qnew_any {N : Nat} (h1 : 1 ≤ N) (h2 : N ≤ 4096) (w : World) : Calls Try.prog 17 #[.int .i64 (N : Int)] w fun e w' => ∃ q, e = .returned (.tuple #[qptr q, .int .i64 0]) ∧ w.heap.size ≤ q ∧ QuO q N [] w' (fun k => w.heap.size ≤ k) ∧ Below w.heap.size w w' := by
  obtain ⟨i, hi, hz, hs, hby⟩ := info_parts infoIt
  have hmk := fun W => run_make (P := Try.prog) W 22 38 i _ Try.underlying22 hi hz .i64 .i64 (N : Int) (N : Int) (by omega) (Int.le_refl _) (by rw [hby]; omega) (by omega)
  simp only [Int.toNat_natCast, hs] at hmk
  have g1 : ¬ (N : Int) < 1 := by omega
  have g2 : ¬ (4096 : Int) < (N : Int) := by omega
  clear hi hz hs hby h1
  go_enter Try.func17, Try.ntmps17
  go_wp2_with fail
  refine bodyPost_ret (v := .tuple #[qptr (w.heap.size + 1), .int .i64 0]) (by simp only [results, Try.results17]; go_simp) rfl ?_
  refine ⟨w.heap.size + 1, rfl, by omega, ⟨w.heap.size, 0, madeCells #[.int .i64 0, .string ⟨#[]⟩, .slice none 0 0, .int .i64 0, .int .i64 0, .int .i64 0, .int .i64 0, .slice none 0 0] (N * 8), ?_⟩, below_alloc (below_alloc (Below.refl _ _) _) _⟩
  have e := newB (w.alloc (.cells (madeCells #[.int .i64 0, .string ⟨#[]⟩, .slice none 0 0, .int .i64 0, .int .i64 0, .int .i64 0, .int .i64 0, .slice none 0 0] (N * 8)) 38)) (.cells #[.slice (some ⟨w.heap.size, 0, none⟩) N N, .int .i64 0, .int .i64 0] 59)
  rw [alloc_size] at e
  exact
    { inq := Nat.le_succ _
      inr := Nat.le_refl _
      ne := by omega
      que := e
      ring := keepA (newB w _) _
      size := size_madeCells _ _
      lt := by omega
      le := h2
      len := Nat.zero_le _
      its := fun j hj => absurd hj (Nat.not_lt_zero j)
      sm := by simp }
section
variable {w : World} {F : Nat → Prop} {q N : Nat} {Q : List ItC}
theorem qright_any (h : QuO q N Q w F) : Calls Try.prog 21 #[qptr q] w fun e w' => e = .returned (.bool true) ∧ w = w' := by
  obtain ⟨r, a, c, h⟩ := h
  have k0 := cellAt (o := 0) h.que rfl
  have hn : (0 : Int) < (N : Int) := by have := h.lt; omega
  have hn2 : 0 < N := by have := h.lt; omega
  clear h
  go_enter Try.func21, Try.ntmps21
  go_wp2_with fail
  go_ret
  exact ⟨rfl, rfl⟩
theorem qright_nil (w : World) : Calls Try.prog 21 #[.pointer none] w fun e w' => e = .returned (.bool false) ∧ w = w' := by
  go_enter Try.func21, Try.ntmps21
  go_wp2_with fail
  go_ret
  exact ⟨rfl, rfl⟩
theorem qlen_any (h : QuO q N Q w F) {n : Nat} (hn : Q.length = n) : Calls Try.prog 11 #[qptr q] w fun e w' => e = .returned (.int .i64 (n : Int)) ∧ w = w' := by
  have CR := Lib.hid (qright_any h)
  obtain ⟨r, a, c, h⟩ := h
  have k2 := cellAt (o := 2) (v := .int .i64 (n : Int)) h.que (by rw [← hn]; rfl)
  clear h hn
  go_enter Try.func11, Try.ntmps11
  go_wp2_with fail
  refine CR.out.mono ?_
  rintro e w1 ⟨rfl, rfl⟩
  go_wp2_with fail
  go_ret
  exact ⟨rfl, rfl⟩
theorem qlen_nil (w : World) : Calls Try.prog 11 #[.pointer none] w fun e w' => e = .returned (.int .i64 0) ∧ w = w' := by
  go_enter Try.func11, Try.ntmps11
  go_wp2_with fail
  refine (qright_nil _).mono ?_
  rintro e w1 ⟨rfl, rfl⟩
  go_wp2_with fail
  go_ret
  exact ⟨rfl, rfl⟩
theorem qroom_any (h : QuO q N Q w F) {m : Nat} (hm : N = Q.length + m) : Calls Try.prog 12 #[qptr q] w fun e w' => e = .returned (.int .i64 (m : Int)) ∧ Below w.heap.size w w' := by
  have CR := Lib.hid (qright_any h)
  obtain ⟨r, a, c, h⟩ := h
  have k0 := cellAt (o := 0) (v := .slice (some ⟨r, 0, none⟩) N N) h.que rfl
  have K0 := Lib.hid (fun (W : World) (hb : Below w.heap.size w W) => cellAt (o := 0) (v := .slice (some ⟨r, 0, none⟩) N N) (keepB h.que hb) rfl)
  obtain ⟨n, hn⟩ : ∃ n, Q.length = n := ⟨_, rfl⟩
  have k2 := cellAt (o := 2) (v := .int .i64 (n : Int)) h.que (by rw [← hn]; rfl)
  have K2 := Lib.hid (fun (W : World) (hb : Below w.heap.size w W) => cellAt (o := 2) (v := .int .i64 (n : Int)) (keepB h.que hb) (by rw [← hn]; rfl))
  have hle := h.le
  rw [hn] at hm
  have hw : IntKind.i64.wrap ((N : Int) - (n : Int)) = (m : Int) := by rw [IntKind.wrap_i64]; omega
  clear h hn hm
  go_enter Try.func12, Try.ntmps12
  go_wp2_with fail
  refine CR.out.mono ?_
  rintro e w1 ⟨rfl, rfl⟩
  go_wp2_with fail
  clear k0 k2
  refine wp_region_here 11 [(0, false), (1, false), (2, false), (3, false), (4, false), (5, false), (6, false), (7, false), (8, false), (9, false), (10, false)] (fun _ => .cells #[] 0) (by kernel_rfl) (by kernel_rfl) ?_
  repeat (first | (refine wpP_q rfl rfl rfl ?_; apply Exists.intro; refine ⟨fun w' hw' => ?_, fun K hK => ?_⟩; (focus ((have k0 := K0.out _ hw'; have k2 := K2.out _ hw'); go_simp; first | exact quiet_value | fail)); simp only [Act.put, List.setIfInBounds_toArray, List.set_cons_zero, List.set_cons_succ]; refine hK.out _ ?_; clear hK K) | (refine wpP_skip rfl rfl rfl (fun K hK => ?_); simp only [Act.put, List.setIfInBounds_toArray, List.set_cons_zero, List.set_cons_succ]; refine hK.out _ ?_; clear hK K))
  refine wpP_nil ?_
  intro w2 hb2
  have HB2 := Lib.hid hb2
  clear hb2
  (try simp only [List.drop_succ_cons]); (try simp only [List.drop_zero]); (try simp only [List.drop_nil])
  go_wp2_with fail
  go_ret
  exact ⟨rfl, HB2.out⟩
theorem qroom_nil (w : World) : Calls Try.prog 12 #[.pointer none] w fun e w' => e = .returned (.int .i64 0) ∧ w = w' := by
  go_enter Try.func12, Try.ntmps12
  go_wp2_with fail
  refine (qright_nil _).mono ?_
  rintro e w1 ⟨rfl, rfl⟩
  go_wp2_with fail
  go_ret
  exact ⟨rfl, rfl⟩
end
end Go.Proofs.Ytjnkcgegmffncaa
