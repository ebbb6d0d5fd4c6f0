/- A queue: Take. -/
import Derived.Test.YtjnkcgegmffncaaQuF
namespace Go.Proofs.Ytjnkcgegmffncaa
open Go.RowKit
theorem mod_ne {a d N : Nat} (ha : a < N) (h0 : 0 < d) (hd : d < N) : (a + d) % N ≠ a := by
  by_cases h : a + d < N
  · rw [Nat.mod_eq_of_lt h]; omega
  · rw [Nat.mod_eq_sub_mod (by omega), Nat.mod_eq_of_lt (by omega)]; omega
theorem mod_lt_ {a N : Nat} (h : 0 < N) : a % N < N := Nat.mod_lt _ h
theorem slot_in {s N : Nat} (h : s < N) : s * 8 + 7 < N * 8 := by omega
theorem mod_step (a j N : Nat) : ((a + 1) % N + j) % N = (a + (j + 1)) % N := by
  rw [Nat.mod_add_mod]; congr 1; omega
def TakeP (q N : Nat) (x : ItC) (Qr : List ItC) (F : Nat → Prop) (w : World) (e : Ending) (w' : World) : Prop :=
  ∃ y : It, e = .returned (.tuple #[itA y, .int .i64 0]) ∧ itC y = x ∧ ItIn w' (fun k => w.heap.size ≤ k) y.2.2.1.1 y.2.2.1.2.2 y.2.2.2.2.2.2.2.1 y.2.2.2.2.2.2.2.2.2 ∧ Goes (QuO q N Qr) F w w'
section
variable {w w9 : World} {F : Nat → Prop} {q N r a : Nat} {c : Array Value} {Qr : List ItC} {x0 : ItC}
/-- What Take leaves. -/
theorem QuC.take (h : QuC w F q N r a c (x0 :: Qr)) (ho : Only (fun i => F i ∧ (i = q ∨ i = r) ∨ w.heap.size ≤ i) w w9) (hq : w9.heap[q]? = some (.cells #[.slice (some ⟨r, 0, none⟩) N N, .int .i64 (((a + 1) % N : Nat) : Int), .int .i64 (Qr.length : Int)] 59 (0, 0)))
    {v0 v1 v2 v3 v4 v5 v6 v7 : Value} (hr : w9.heap[r]? = some (.cells (put8 c (a * 8) v0 v1 v2 v3 v4 v5 v6 v7) 38 (0, 0))) : Goes (QuO q N Qr) F w w9 := by
  have hl := h.len
  simp only [List.length_cons] at hl
  have hO : Only F w w9 := ⟨ho.os, ho.tape, ho.output, ho.size, fun k hk hn => ho.block k hk (fun e => by
    rcases e with e | e
    · exact hn e.1
    · omega)⟩
  have hits : RingAt w9 (fun k => ((F k ∨ w.heap.size ≤ k) ∧ k < w9.heap.size) ∧ k ≠ q ∧ k ≠ r) (put8 c (a * 8) v0 v1 v2 v3 v4 v5 v6 v7) N ((a + 1) % N) Qr := fun j hj => by
    obtain ⟨x, h1, h2, h3⟩ := h.its (j + 1) (by simpa using hj)
    refine ⟨x, ?_, by simpa using h2, (h3.keep ho (fun k hk hkl e => ?_)).weak (fun k hkl hk => ⟨⟨.inl hk.1, hkl⟩, hk.2⟩)⟩
    · rw [mod_step]; exact h1.other (mod_ne h.lt (by omega) (by omega))
    · rcases e with ⟨_, e | e⟩ | e
      · exact hk.2.1 e
      · exact hk.2.2 e
      · omega
  have hQ : QuC w9 (fun k => (F k ∨ w.heap.size ≤ k) ∧ k < w9.heap.size) q N r ((a + 1) % N) (put8 c (a * 8) v0 v1 v2 v3 v4 v5 v6 v7) Qr :=
    { inq := ⟨.inl h.inq, only_lt hq⟩
      inr := ⟨.inl h.inr, only_lt hr⟩
      ne := h.ne
      que := hq
      ring := hr
      size := by rw [put8_size]; exact h.size
      lt := mod_lt_ (by have := h.lt; omega)
      le := h.le
      len := by omega
      sm := fun x hx => h.sm x (List.mem_cons_of_mem _ hx)
      its := hits }
  exact ⟨_, ⟨r, _, _, hQ⟩, fun k hk => hk, hO⟩
set_option maxHeartbeats 8000000 in
set_option maxRecDepth 100000 in
theorem qtake_some (h : QuO q N (x0 :: Qr) w F) : Calls Try.prog 7 #[qptr q] w (TakeP q N x0 Qr F w) := by
  have HA := Lib.hid (below_alloc (Below.refl w.heap.size w) (Obj.cells #[.int .i64 0, .string ⟨#[]⟩, .slice none 0 0, .int .i64 0, .int .i64 0, .int .i64 0, .int .i64 0, .slice none 0 0] 38))
  have HZ := Lib.hid (newB w (Obj.cells #[.int .i64 0, .string ⟨#[]⟩, .slice none 0 0, .int .i64 0, .int .i64 0, .int .i64 0, .int .i64 0, .slice none 0 0] 38))
  have CR := Lib.hid (qright_any ((QuO.obj _ _ _).below h HA.out))
  have CF := Lib.hid (qfirst_some ((QuO.obj _ _ _).below h HA.out))
  obtain ⟨r, a, c, h⟩ := h
  have H := Lib.hid h
  obtain ⟨qn, hqn⟩ : ∃ n, Qr.length = n := ⟨_, rfl⟩
  obtain ⟨qm, hqm⟩ : ∃ n, qn + 1 = n := ⟨_, rfl⟩
  have hq : w.heap[q]? = some (.cells #[.slice (some ⟨r, 0, none⟩) N N, .int .i64 (a : Int), .int .i64 (qm : Int)] 59 (0, 0)) := by have := h.que; rw [List.length_cons, hqn, hqm] at this; exact this
  have HQ := Lib.hid hq
  obtain ⟨b, hb⟩ : ∃ b, a + 1 = b := ⟨_, rfl⟩
  obtain ⟨a1, ha1⟩ : ∃ x, b % N = x := ⟨_, rfl⟩
  have hlt := h.lt
  have hle := h.le
  have hlen := h.len
  rw [List.length_cons, hqn, hqm] at hlen
  have hne := h.ne
  have hw : IntKind.i64.wrap ((a : Int) + 1) = (b : Int) := by rw [IntKind.wrap_i64]; omega
  have ht : Int.tmod (b : Int) (N : Int) = (a1 : Int) := by rw [← ha1]; rfl
  have ha1l : a1 < N := by rw [← ha1]; exact mod_lt_ (by omega)
  have hNz : ¬ N = 0 := by omega
  have hw2 : IntKind.i64.wrap ((qm : Int) - 1) = (qn : Int) := by rw [IntKind.wrap_i64]; omega
  have haN : (a : Int) < (N : Int) := by omega
  have HN := Lib.hid (And.intro hqn (And.intro hqm (And.intro hb ha1)))
  have HSz := Lib.hid h.size
  obtain ⟨z, hz⟩ : ∃ z, w.heap.size = z := ⟨_, rfl⟩
  have HZe := Lib.hid hz
  have HZlt := Lib.hid (only_lt HZ.out)
  have HZq : Hid (q < z ∧ r < z) := Lib.hid (by rw [← hz]; exact ⟨only_lt h.que, only_lt h.ring⟩)
  rw [hz] at HZ HZlt
  clear h hq hqn hqm hb ha1
  go_enter Try.func7, Try.ntmps7
  go_wp2_with fail
  clear hz
  obtain ⟨w1, hw1⟩ : ∃ w1, w.alloc (Obj.cells #[.int .i64 0, .string ⟨#[]⟩, .slice none 0 0, .int .i64 0, .int .i64 0, .int .i64 0, .int .i64 0, .slice none 0 0] 38) = w1 := ⟨_, rfl⟩
  rw [hw1] at HA HZ HZlt CF CR ⊢
  clear hw1
  refine CR.out.mono ?_
  rintro e w0 ⟨rfl, rfl⟩
  go_wp2_with fail
  refine CF.out.mono ?_
  rintro e w2 ⟨⟨k, m, ⟨la, lc, L⟩, t, n, tm, bt, ca, cc, C⟩, rfl, hy1, hy2, hb2⟩
  simp only [itA, lsV] at hy2 ⊢
  obtain ⟨l1, hl1⟩ : ∃ n, L.length = n := ⟨_, rfl⟩
  obtain ⟨l2, hl2⟩ : ∃ n, C.length = n := ⟨_, rfl⟩
  rw [hl1, hl2]
  have HL := Lib.hid (And.intro hl1 hl2)
  have HY1 := Lib.hid hy1
  have HY2 := Lib.hid hy2
  have HB2 := Lib.hid (HA.out.trans (hb2.mono HA.out.size))
  have HZ2 := Lib.hid (keepB HZ.out hb2)
  have HW1 := Lib.hid hb2.size
  clear hy1 hy2 hb2 CF CR HZ hl1 hl2
  go_wp2_with fail
  have HX4 := Lib.hid (newB w2 (.cells #[.int .i64 k, .string m, .slice la l1 lc, .int .i64 t, .int .i64 n, .int .i64 tm, .int .i64 bt, .slice ca l2 cc] 38))
  obtain ⟨w3, hw3⟩ : ∃ w3, w2.alloc (.cells #[.int .i64 k, .string m, .slice la l1 lc, .int .i64 t, .int .i64 n, .int .i64 tm, .int .i64 bt, .slice ca l2 cc] 38) = w3 := ⟨_, rfl⟩
  have HB3 := Lib.hid (below_alloc HB2.out (.cells #[.int .i64 k, .string m, .slice la l1 lc, .int .i64 t, .int .i64 n, .int .i64 tm, .int .i64 bt, .slice ca l2 cc] 38))
  have HB23 := Lib.hid (below_alloc (Below.refl w2.heap.size w2) (.cells #[.int .i64 k, .string m, .slice la l1 lc, .int .i64 t, .int .i64 n, .int .i64 tm, .int .i64 bt, .slice ca l2 cc] 38))
  have HZ3 := Lib.hid (keepB HZ2.out HB23.out)
  rw [hw3] at HX4 HB3 HB23 HZ3 ⊢
  clear hw3
  obtain ⟨x4, hx4⟩ : ∃ x4, w2.heap.size = x4 := ⟨_, rfl⟩
  have HX4e := Lib.hid hx4
  rw [hx4] at HX4 ⊢
  clear hx4
  refine wp_region_here 10 [(0, false), (1, false), (2, false), (3, false), (4, false), (5, false), (6, false), (7, false), (8, false), (9, false)] (fun _ => .cells #[] 0) (by kernel_rfl) (by kernel_rfl) ?_
  repeat (first | (refine wpP_q rfl rfl rfl ?_; apply Exists.intro; refine ⟨fun w' hw' => ?_, fun K hK => ?_⟩; (focus ((have hB := HB3.out.trans (hw'.mono HB3.out.size); have k0 := cellAt (o := 0) (v := .slice (some ⟨r, 0, none⟩) N N) (keepB HQ.out hB) rfl; have k1 := cellAt (o := 1) (v := .int .i64 (a : Int)) (keepB HQ.out hB) rfl); go_simp; first | exact quiet_value | fail)); simp only [Act.put, List.setIfInBounds_toArray, List.set_cons_zero, List.set_cons_succ]; refine hK.out _ ?_; clear hK K) | (refine wpP_skip rfl rfl rfl (fun K hK => ?_); simp only [Act.put, List.setIfInBounds_toArray, List.set_cons_zero, List.set_cons_succ]; refine hK.out _ ?_; clear hK K))
  refine wpP_nil ?_
  intro w4 hb4
  have HB4 := Lib.hid (HB3.out.trans (hb4.mono HB3.out.size))
  have HQ4 := Lib.hid (keepB HQ.out HB4.out)
  have HR4 := Lib.hid (keepB H.out.ring HB4.out)
  have HZ4 := Lib.hid (keepB HZ3.out hb4)
  have HX5 := Lib.hid (keepB HX4.out hb4)
  have HY3 := Lib.hid ((HY2.out.below HB23.out).below hb4)
  clear hb4 HZ3 HX4 HY2 HB2 HB23
  (try simp only [List.drop_succ_cons]); (try simp only [List.drop_zero]); (try simp only [List.drop_nil])
  refine wpL_storeIt rfl _ _ rfl r (a * 8) 0 ⟨#[]⟩ none 0 0 0 0 0 0 none 0 0 rfl rfl c _ HR4.out (by rw [HSz.out]; omega) ?_
  intro w5 HR5 HO5
  have HQ5 := Lib.hid (HO5.out.get HQ4.out hne)
  have HZ5 := Lib.hid (HO5.out.get HZ4.out (fun e => by have := HZq.out; omega))
  have HX6 := Lib.hid (HO5.out.get HX5.out (show ¬ x4 = r by have := HZq.out; have := HX4e.out; have := HA.out.size; have := HW1.out; have := HZe.out; have := HZlt.out; omega))
  go_wp2_with fail
  refine wp_region_here 14 [(0, false), (1, false), (2, false), (3, false), (4, false), (5, false), (6, false), (7, false), (8, false), (9, false), (10, false), (11, false), (12, false), (13, false)] (fun _ => .cells #[] 0) (by kernel_rfl) (by kernel_rfl) ?_
  repeat (first | (refine wpP_q rfl rfl rfl ?_; apply Exists.intro; refine ⟨fun w' hw' => ?_, fun K hK => ?_⟩; (focus ((have k0 := cellAt (o := 0) (v := .slice (some ⟨r, 0, none⟩) N N) (keepB HQ5.out hw') rfl; have k1 := cellAt (o := 1) (v := .int .i64 (a : Int)) (keepB HQ5.out hw') rfl); go_simp; first | exact quiet_value | fail)); simp only [Act.put, List.setIfInBounds_toArray, List.set_cons_zero, List.set_cons_succ]; refine hK.out _ ?_; clear hK K) | (refine wpP_skip rfl rfl rfl (fun K hK => ?_); simp only [Act.put, List.setIfInBounds_toArray, List.set_cons_zero, List.set_cons_succ]; refine hK.out _ ?_; clear hK K))
  refine wpP_nil ?_
  intro w6 hb6
  have HQ6 := Lib.hid (keepB HQ5.out hb6)
  have HR6 := Lib.hid (keepB HR5.out hb6)
  have HZ6 := Lib.hid (keepB HZ5.out hb6)
  have HX7 := Lib.hid (keepB HX6.out hb6)
  have HO6 := Lib.hid (HO5.out.then (T := fun _ => False) (Only.of_below hb6) (fun _ _ h => h.elim))
  clear hb6 HQ5 HR5 HZ5 HX6
  (try simp only [List.drop_succ_cons]); (try simp only [List.drop_zero]); (try simp only [List.drop_nil])
  have k1 := cellAt (o := 1) (v := .int .i64 (a : Int)) HQ6.out rfl
  have k2 := cellAt (o := 2) (v := .int .i64 (qm : Int)) HQ6.out rfl
  have g1 := freeAt 1 HQ6.out
  have g2 := freeAt 2 HQ6.out
  have HQ7 := Lib.hid (setCell_get (o := 2) (u := .int .i64 (qn : Int)) (setCell_get (o := 1) (u := .int .i64 (a1 : Int)) HQ6.out))
  have HO7 : Hid (Only (fun i => i = q) w6 ((w6.setCell ⟨q, 1, none⟩ (.int .i64 (a1 : Int))).setCell ⟨q, 2, none⟩ (.int .i64 (qn : Int)))) := Lib.hid ((Only.set w6 q 1 _).trans (Only.set _ q 2 _))
  have hx4b : z < x4 := by have := HA.out.size; have := HW1.out; have := HX4e.out; have := only_lt HZ6.out; have := HZlt.out; omega
  have hq4 := HZq.out
  have hxq : ¬ x4 = q := by omega
  have hqx : ¬ q = x4 := by omega
  have hzq : ¬ z = q := by omega
  have hqz : ¬ q = z := by omega
  have c0 := cellAt (o := 0) HX7.out rfl
  have c1 := cellAt (o := 1) HX7.out rfl
  have c2 := cellAt (o := 2) HX7.out rfl
  have c3 := cellAt (o := 3) HX7.out rfl
  have c4 := cellAt (o := 4) HX7.out rfl
  have c5 := cellAt (o := 5) HX7.out rfl
  have c6 := cellAt (o := 6) HX7.out rfl
  have c7 := cellAt (o := 7) HX7.out rfl
  have r0 := cellAt (o := 0) HZ6.out rfl
  have r1 := cellAt (o := 1) HZ6.out rfl
  have r2 := cellAt (o := 2) HZ6.out rfl
  have r3 := cellAt (o := 3) HZ6.out rfl
  have r4 := cellAt (o := 4) HZ6.out rfl
  have r5 := cellAt (o := 5) HZ6.out rfl
  have r6 := cellAt (o := 6) HZ6.out rfl
  have r7 := cellAt (o := 7) HZ6.out rfl
  have f0 := freeAt 0 HZ6.out
  have f1 := freeAt 1 HZ6.out
  have f2 := freeAt 2 HZ6.out
  have f3 := freeAt 3 HZ6.out
  have f4 := freeAt 4 HZ6.out
  have f5 := freeAt 5 HZ6.out
  have f6 := freeAt 6 HZ6.out
  have f7 := freeAt 7 HZ6.out
  have HI := Lib.hid (And.intro hx4b hq4)
  clear hx4b hq4
  go_wp2_with fail
  refine bodyPost_ret (v := .tuple #[itA (k, m, (la, lc, L), t, n, tm, bt, ca, cc, C), .int .i64 0]) (by simp only [results, Try.results7]; go_simp; exact ⟨HL.out.1.symm, HL.out.2.symm⟩) rfl ?_
  have hi := HI.out
  have hzz := HZe.out
  have hn := HN.out
  have hO9 := only8 ((w6.setCell ⟨q, 1, none⟩ (.int .i64 (a1 : Int))).setCell ⟨q, 2, none⟩ (.int .i64 (qn : Int))) z 0 (.int .i64 k) (.string m) (.slice la l1 lc) (.int .i64 t) (.int .i64 n) (.int .i64 tm) (.int .i64 bt) (.slice ca l2 cc)
  have hO49 := ((HO6.out.mono (T := fun i => i = r ∨ i = q ∨ i = z) (fun i _ e => .inl e)).trans (HO7.out.mono (fun i _ e => .inr (.inl e)))).trans (hO9.mono (fun i _ e => .inr (.inr e)))
  have hw1 := HA.out.size
  have hzl := HZlt.out
  have hq9 := hO9.get HQ7.out (by omega)
  have hr9 := hO9.get (HO7.out.get HR6.out (by omega)) (by omega)
  refine ⟨_, rfl, HY1.out, (HY3.out.keep hO49 (fun i hi' _ e => by have h2 : w1.heap.size ≤ i := hi'; rcases e with e | e | e <;> omega)).weak (fun i _ hi' => Nat.le_trans hw1 hi'), ?_⟩
  refine QuC.take H.out ((Only.of_below HB4.out).trans (hO49.mono (fun i _ e => ?_))) ?_ hr9
  · rcases e with e | e | e
    · exact .inl ⟨by rw [e]; exact H.out.inr, .inr e⟩
    · exact .inl ⟨by rw [e]; exact H.out.inq, .inl e⟩
    · exact .inr (by omega)
  · have e1 : (a + 1) % N = a1 := by rw [hn.2.2.1]; exact hn.2.2.2
    rw [e1, hn.1]
    exact hq9
end
end Go.Proofs.Ytjnkcgegmffncaa
