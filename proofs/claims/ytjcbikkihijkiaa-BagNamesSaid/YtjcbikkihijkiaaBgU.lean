/- A bag in memory: Put. -/
import Derived.Test.YtjcbikkihijkiaaBgB
namespace Go.Proofs.Ytjcbikkihijkiaa
open Go.RowKit
/-- A bag has turned: in its own memory, or in new memory. -/
def BagGo (w : World) (F : Nat → Prop) (b : Nat) (T : Tr) (o : Nat) (w' : World) : Prop :=
  ∃ F', BagT w' F' b T o ∧ (∀ i, F' i → (F i ∨ w.heap.size ≤ i) ∧ i < w'.heap.size) ∧ Only F w w'
theorem BagGo.of_below {w w' : World} {F : Nat → Prop} {b : Nat} {T : Tr} {o : Nat} (h : BagT w F b T o) (hb : Below w.heap.size w w') : BagGo w F b T o w' :=
  ⟨_, (h.below hb).old, fun _ hi => ⟨.inl hi.1, hi.2⟩, Only.of_below hb⟩
def PutG (r : Int) (w : World) (F : Nat → Prop) (b : Nat) (T : Tr) (o : Nat) (e : Ending) (w' : World) : Prop := e = .returned (.int .i64 r) ∧ BagGo w F b T o w'
section
variable {w : World} {F : Nat → Prop} {b : Nat} {T : Tr} {o : Nat}
set_option maxHeartbeats 4000000 in
set_option maxRecDepth 100000 in
theorem bput_bad (n : Int) (hn : n ≠ 0) (h : BagT w F b T o) : Calls Try.prog 9 #[.pointer (some ⟨b, 0, none⟩), .agg #[.int .i64 n, .bool true]] w (PutG 2 w F b T o) := by
  have HB := Lib.hid (below_alloc (Below.refl w.heap.size w) (.cells #[.int .i64 (n), .bool (true)] 29))
  have HN := Lib.hid (newB w (.cells #[.int .i64 (n), .bool (true)] 29))
  have H1 := Lib.hid (h.below HB.out)
  have CR := Lib.hid (right_any H1.out)
  have c0 := cellAt (o := 0) HN.out rfl
  have c1 := cellAt (o := 1) HN.out rfl
  have H := Lib.hid h
  clear h
  go_enter Try.func9, Try.ntmps9
  go_wp2_with fail
  refine CR.out.mono ?_
  rintro e w1 ⟨rfl, rfl⟩
  go_wp2_with fail
  refine (check_bad n hn _).mono ?_
  rintro e w1 ⟨rfl, hb1⟩
  have HB1 := Lib.hid (HB.out.trans (hb1.mono HB.out.size))
  clear hb1
  go_wp2_with fail
  refine bodyPost_ret (v := .int .i64 2) (by simp only [results, Try.results9]; go_simp) rfl ⟨rfl, BagGo.of_below H.out HB1.out⟩
set_option maxHeartbeats 4000000 in
set_option maxRecDepth 100000 in
theorem bput_over (h : BagT w F b T o) (ho : o + 1 ≤ 1099511627776) : Calls Try.prog 9 #[.pointer (some ⟨b, 0, none⟩), .agg #[.int .i64 0, .bool true]] w (PutG 0 w F b T (o + 1)) := by
  have HB := Lib.hid (below_alloc (Below.refl w.heap.size w) (.cells #[.int .i64 (0), .bool (true)] 29))
  have HN := Lib.hid (newB w (.cells #[.int .i64 (0), .bool (true)] 29))
  have H1 := Lib.hid (h.below HB.out)
  have CR := Lib.hid (right_any H1.out)
  have H := Lib.hid h
  have hw : IntKind.i64.wrap ((o : Int) + 1) = ((o + 1 : Nat) : Int) := by rw [IntKind.wrap_i64]; omega
  have c0 := cellAt (o := 0) HN.out rfl
  have c1 := cellAt (o := 1) HN.out rfl
  clear h
  go_enter Try.func9, Try.ntmps9
  go_wp2_with fail
  refine CR.out.mono ?_
  rintro e w1 ⟨rfl, rfl⟩
  go_wp2_with fail
  refine (check_ok 0 true (.inr rfl) _).mono ?_
  rintro e w1 ⟨rfl, hb1⟩
  have HB1 := Lib.hid (HB.out.trans (hb1.mono HB.out.size))
  have k9 := keepB HN.out hb1
  clear c0 c1
  have c0 := cellAt (o := 0) k9 rfl
  have c1 := cellAt (o := 1) k9 rfl
  clear hb1 k9
  obtain ⟨p, Ft, h1, h2, h3, h4⟩ := H.out
  have h2' := keepB h2 HB1.out
  have d2 := cellAt (o := 2) (v := .int .i64 o) h2' rfl
  have f2 := freeAt 2 h2'
  have HX := Lib.hid (set_at (off := 2) (u := .int .i64 ((o + 1 : Nat) : Int)) h2')
  have HO := Lib.hid ((Only.of_below HB1.out).trans (Only.set w1 b 2 (.int .i64 ((o + 1 : Nat) : Int))) : Only (fun i => i = b) w _)
  have HT := Lib.hid (h3.keep HO.out (fun i hi _ => (h4 i hi).2))
  have HF : Hid (F b) := Lib.hid h1
  have H4 := Lib.hid h4
  clear h2 h2' h3 h1 h4
  go_wp2_with fail
  refine bodyPost_ret (v := .int .i64 0) (by simp only [results, Try.results9]; go_simp) rfl ⟨rfl, ?_⟩
  exact ⟨_, BagT.old ⟨p, Ft, HF.out, HX.out, HT.out, H4.out⟩, fun i hi => ⟨.inl hi.1, hi.2⟩, HO.out.mono (fun i _ e => e ▸ HF.out)⟩
set_option maxHeartbeats 4000000 in
set_option maxRecDepth 100000 in
theorem bput_num (n : Int) (h : BagT w F b T o) (h1 : T.all + 1 ≤ 1099511627776) (h2 : T.cnt + 1 ≤ 1099511627776) : Calls Try.prog 9 #[.pointer (some ⟨b, 0, none⟩), .agg #[.int .i64 n, .bool false]] w (PutG 0 w F b (putT n 1 T) o) := by
  have HB := Lib.hid (below_alloc (Below.refl w.heap.size w) (.cells #[.int .i64 (n), .bool (false)] 29))
  have HN := Lib.hid (newB w (.cells #[.int .i64 (n), .bool (false)] 29))
  have H1 := Lib.hid (h.below HB.out)
  have CR := Lib.hid (right_any H1.out)
  have H := Lib.hid h
  have c0 := cellAt (o := 0) HN.out rfl
  have c1 := cellAt (o := 1) HN.out rfl
  clear h
  go_enter Try.func9, Try.ntmps9
  go_wp2_with fail
  refine CR.out.mono ?_
  rintro e w1 ⟨rfl, rfl⟩
  go_wp2_with fail
  refine (check_ok n false (.inl rfl) _).mono ?_
  rintro e w1 ⟨rfl, hb1⟩
  have HB1 := Lib.hid (HB.out.trans (hb1.mono HB.out.size))
  have HN1 := Lib.hid (keepB HN.out hb1)
  clear c0 c1
  have c0 := cellAt (o := 0) HN1.out rfl
  have c1 := cellAt (o := 1) HN1.out rfl
  clear hb1
  obtain ⟨p, Ft, g1, g2, g3, g4⟩ := H.out.old
  have CP := Lib.hid (fun W (hb : Below w.heap.size w W) => put_any (n := n) (k := 1) T (a := b) (off := 1) (cs := bagC p o) (keepB g2 hb) rfl (g3.below hb) (fun i hi => (g4 i hi).2) (fun i hi => Nat.lt_of_lt_of_le (g4 i hi).1.2 hb.size) h1 h2)
  have HF := Lib.hid g1
  have H4 := Lib.hid g4
  clear g1 g2 g3 g4 H H1
  go_wp2_with fail
  refine wp_region_here 6 [(0, false), (1, false), (2, false), (3, false), (4, false), (5, false)] (fun _ => .cells #[] 0) (by kernel_rfl) (by kernel_rfl) ?_
  repeat (first | (refine wpP_q rfl rfl rfl ?_; apply Exists.intro; refine ⟨fun w' hw' => ?_, fun K hK => ?_⟩; (focus ((have q0 := keepB HN1.out hw'; have d0 := cellAt (o := 0) q0 rfl; clear q0); go_simp; first | exact quiet_value | fail)); simp only [Act.put, List.setIfInBounds_toArray, List.set_cons_zero, List.set_cons_succ]; refine hK.out _ ?_; clear hK K) | (refine wpP_skip rfl rfl rfl (fun K hK => ?_); simp only [Act.put, List.setIfInBounds_toArray, List.set_cons_zero, List.set_cons_succ]; refine hK.out _ ?_; clear hK K))
  refine wpP_nil ?_
  intro w2 hb2
  have HB2 := Lib.hid (HB1.out.trans (hb2.mono HB1.out.size))
  clear hb2
  try simp only [List.drop_succ_cons, List.drop_zero]
  go_wp2_with fail
  refine (CP.out _ HB2.out).mono ?_
  rintro e w3 ⟨rfl, p', F', g1, g2, g3, g4⟩
  have R1 : Hid (w3.heap[b]? = some (.cells (bagC p' o) 58 (0, 0))) := Lib.hid g1
  have R2 := Lib.hid g2
  have HS := Lib.hid HB2.out.size
  have R3 : Hid (∀ i, F' i → ((F i ∨ w.heap.size ≤ i) ∧ i ≠ b) ∧ i < w3.heap.size) := Lib.hid (fun i hi => by
    obtain ⟨h5, h6⟩ := g3 i hi
    rcases h5 with h5 | h5
    · exact ⟨⟨.inl (H4.out i h5).1.1, (H4.out i h5).2⟩, h6⟩
    · have h7 := HS.out; have h8 := HF.out.2; exact ⟨⟨.inr (by omega), by omega⟩, h6⟩)
  have R4 : Hid (Only F w w3) := Lib.hid (((Only.of_below HB2.out).trans g4).mono (fun i _ h => h.elim (fun e => e ▸ HF.out.1) (fun h => (H4.out i h).1.1)))
  clear g1 g2 g3 g4 CP
  go_wp2_with fail
  refine bodyPost_ret (v := .int .i64 0) (by simp only [results, Try.results9]; go_simp) rfl ⟨rfl, ?_⟩
  exact ⟨fun i => i = b ∨ F' i, ⟨p', F', .inl rfl, R1.out, R2.out, fun i hi => ⟨.inr hi, (R3.out i hi).1.2⟩⟩, fun i hi => ⟨hi.elim (fun e => .inl (e ▸ HF.out.1)) (fun h => (R3.out i h).1.1), hi.elim (fun e => by subst e; exact only_lt R1.out) (fun h => (R3.out i h).2)⟩, R4.out⟩
end
/-- A value is put. -/
def putB (n : Int) (ov : Bool) (T : Tr) (o : Nat) : Tr × Nat := if chk n ov = 0 then (if ov = true then (T, o + 1) else (putT n 1 T, o)) else (T, o)
theorem bput_any (n : Int) (ov : Bool) {w : World} {F : Nat → Prop} {b : Nat} {T : Tr} {o : Nat} (h : BagT w F b T o) (h0 : o + 1 ≤ 1099511627776) (h1 : T.all + 1 ≤ 1099511627776) (h2 : T.cnt + 1 ≤ 1099511627776) :
    Calls Try.prog 9 #[.pointer (some ⟨b, 0, none⟩), .agg #[.int .i64 n, .bool ov]] w (PutG (chk n ov) w F b (putB n ov T o).1 (putB n ov T o).2) := by
  unfold putB chk
  cases ov
  · simpa using bput_num n h h1 h2
  · by_cases hn : n = 0
    · subst hn; simpa using bput_over h h0
    · simpa [hn] using bput_bad n hn h
end Go.Proofs.Ytjcbikkihijkiaa
