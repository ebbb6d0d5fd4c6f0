/- A bag in memory: Take. -/
import Derived.Test.YtjcbikkihijkiaaBgC
namespace Go.Proofs.Ytjcbikkihijkiaa
open Go.RowKit
theorem findT_has {n : Int} : ∀ {T : Tr}, findT n T ≠ 0 → hasT n T
  | .nil, h => h rfl
  | .node m k l r, h => by
    simp only [findT] at h
    simp only [hasT]
    by_cases he : n = m
    · subst he; rw [if_neg (by omega), if_neg (by omega)]; trivial
    · rw [if_neg he] at h
      by_cases hl : n < m
      · rw [if_pos hl] at h ⊢; exact findT_has h
      · rw [if_neg hl] at h ⊢; rw [if_pos (by omega)]; exact findT_has h
section
variable {w : World} {F : Nat → Prop} {b : Nat} {T : Tr} {o : Nat}
set_option maxHeartbeats 4000000 in
set_option maxRecDepth 100000 in
theorem btake_bad (n : Int) (hn : n ≠ 0) (h : BagT w F b T o) : Calls Try.prog 11 #[.pointer (some ⟨b, 0, none⟩), .agg #[.int .i64 n, .bool true]] w (PutG 2 w F b T o) := by
  have HB := Lib.hid (below_alloc (Below.refl w.heap.size w) (Obj.cells #[.int .i64 (n), .bool true] 29))
  have HN := Lib.hid (newB w (Obj.cells #[.int .i64 (n), .bool true] 29))
  have H1 := Lib.hid (h.below HB.out)
  have CR := Lib.hid (right_any H1.out)
  have H := Lib.hid h
  have c0 := cellAt (o := 0) HN.out rfl
  have c1 := cellAt (o := 1) HN.out rfl
  clear h
  go_enter Try.func11, Try.ntmps11
  go_wp2_with fail
  refine CR.out.mono ?_
  rintro e w1 ⟨rfl, rfl⟩
  go_wp2_with fail
  refine (check_bad n hn _).mono ?_
  rintro e w1 ⟨rfl, hb1⟩
  have HB1 := Lib.hid (HB.out.trans (hb1.mono HB.out.size))
  have HN1 := Lib.hid (keepB HN.out hb1)
  clear hb1 c0 c1
  have c0 := cellAt (o := 0) HN1.out rfl
  have c1 := cellAt (o := 1) HN1.out rfl
  go_wp2_with fail
  refine bodyPost_ret (v := .int .i64 2) (by simp only [results, Try.results11]; go_simp) rfl ⟨rfl, BagGo.of_below H.out HB1.out⟩
set_option maxHeartbeats 4000000 in
set_option maxRecDepth 100000 in
theorem btake_none (n : Int) (ov : Bool) (hn : ov = false ∨ n = 0) (h : BagT w F b T o) (h0 : countB n ov T o = 0) : Calls Try.prog 11 #[.pointer (some ⟨b, 0, none⟩), .agg #[.int .i64 n, .bool ov]] w (PutG 6 w F b T o) := by
  have HB := Lib.hid (below_alloc (Below.refl w.heap.size w) (Obj.cells #[.int .i64 (n), .bool ov] 29))
  have HN := Lib.hid (newB w (Obj.cells #[.int .i64 (n), .bool ov] 29))
  have H1 := Lib.hid (h.below HB.out)
  have CR := Lib.hid (right_any H1.out)
  have H := Lib.hid h
  have c0 := cellAt (o := 0) HN.out rfl
  have c1 := cellAt (o := 1) HN.out rfl
  clear h
  go_enter Try.func11, Try.ntmps11
  go_wp2_with fail
  refine CR.out.mono ?_
  rintro e w1 ⟨rfl, rfl⟩
  go_wp2_with fail
  refine (check_ok n ov hn _).mono ?_
  rintro e w1 ⟨rfl, hb1⟩
  have HB1 := Lib.hid (HB.out.trans (hb1.mono HB.out.size))
  have HN1 := Lib.hid (keepB HN.out hb1)
  clear hb1 c0 c1
  have c0 := cellAt (o := 0) HN1.out rfl
  have c1 := cellAt (o := 1) HN1.out rfl
  have CC := Lib.hid (bcount_any (n) (ov) (H.out.below HB1.out))
  obtain ⟨cn, hcn⟩ : ∃ c, countB (n) (ov) T o = c := ⟨_, rfl⟩
  rw [hcn] at CC
  have HCN := Lib.hid hcn
  clear hcn
  go_wp2_with fail
  refine CC.out.mono ?_
  rintro e w2 ⟨rfl, hb2⟩
  have HB2 := Lib.hid (HB1.out.trans (hb2.mono HB1.out.size))
  have HN2 := Lib.hid (keepB HN1.out hb2)
  clear hb2 c0 c1 CC
  have c0 := cellAt (o := 0) HN2.out rfl
  have c1 := cellAt (o := 1) HN2.out rfl
  obtain rfl : cn = 0 := HCN.out.symm.trans h0
  go_wp2_with fail
  refine bodyPost_ret (v := .int .i64 6) (by simp only [results, Try.results11]; go_simp) rfl ⟨rfl, BagGo.of_below H.out HB2.out⟩
set_option maxHeartbeats 4000000 in
set_option maxRecDepth 100000 in
theorem btake_over (h : BagT w F b T o) (h0 : 0 < o) (hm : o ≤ 1099511627776) : Calls Try.prog 11 #[.pointer (some ⟨b, 0, none⟩), .agg #[.int .i64 0, .bool true]] w (PutG 0 w F b T (o - 1)) := by
  have hw : IntKind.i64.wrap ((o : Int) - 1) = ((o - 1 : Nat) : Int) := by rw [IntKind.wrap_i64]; omega
  have HB := Lib.hid (below_alloc (Below.refl w.heap.size w) (Obj.cells #[.int .i64 (0), .bool true] 29))
  have HN := Lib.hid (newB w (Obj.cells #[.int .i64 (0), .bool true] 29))
  have H1 := Lib.hid (h.below HB.out)
  have CR := Lib.hid (right_any H1.out)
  have H := Lib.hid h
  have c0 := cellAt (o := 0) HN.out rfl
  have c1 := cellAt (o := 1) HN.out rfl
  clear h
  go_enter Try.func11, Try.ntmps11
  go_wp2_with fail
  refine CR.out.mono ?_
  rintro e w1 ⟨rfl, rfl⟩
  go_wp2_with fail
  refine (check_ok 0 true (.inr rfl) _).mono ?_
  rintro e w1 ⟨rfl, hb1⟩
  have HB1 := Lib.hid (HB.out.trans (hb1.mono HB.out.size))
  have HN1 := Lib.hid (keepB HN.out hb1)
  clear hb1 c0 c1
  have c0 := cellAt (o := 0) HN1.out rfl
  have c1 := cellAt (o := 1) HN1.out rfl
  have CC := Lib.hid (bcount_any (0) (true) (H.out.below HB1.out))
  obtain ⟨cn, hcn⟩ : ∃ c, countB (0) (true) T o = c := ⟨_, rfl⟩
  rw [hcn] at CC
  have HCN := Lib.hid hcn
  clear hcn
  go_wp2_with fail
  refine CC.out.mono ?_
  rintro e w2 ⟨rfl, hb2⟩
  have HB2 := Lib.hid (HB1.out.trans (hb2.mono HB1.out.size))
  have HN2 := Lib.hid (keepB HN1.out hb2)
  clear hb2 c0 c1 CC
  have c0 := cellAt (o := 0) HN2.out rfl
  have c1 := cellAt (o := 1) HN2.out rfl
  obtain rfl : o = cn := by have := HCN.out; simpa [countB, chk] using this
  have hne : ¬ (o : Int) = 0 := by omega
  obtain ⟨p, Ft, h1, h2, h3, h4⟩ := H.out
  have h2' := keepB h2 HB2.out
  have d2 := cellAt (o := 2) (v := .int .i64 o) h2' rfl
  have f2 := freeAt 2 h2'
  have HX := Lib.hid (set_at (off := 2) (u := .int .i64 ((o - 1 : Nat) : Int)) h2')
  have HO := Lib.hid ((Only.of_below HB2.out).trans (Only.set w2 b 2 (.int .i64 ((o - 1 : Nat) : Int))) : Only (fun i => i = b) w _)
  have HT := Lib.hid (h3.keep HO.out (fun i hi _ => (h4 i hi).2))
  have HF : Hid (F b) := Lib.hid h1
  have H4 := Lib.hid h4
  clear h2 h2' h3 h1 h4
  go_wp2_with fail
  refine bodyPost_ret (v := .int .i64 0) (by simp only [results, Try.results11]; go_simp) rfl ⟨rfl, ?_⟩
  exact ⟨_, BagT.old ⟨p, Ft, HF.out, HX.out, HT.out, H4.out⟩, fun i hi => ⟨.inl hi.1, hi.2⟩, HO.out.mono (fun i _ e => e ▸ HF.out)⟩
set_option maxHeartbeats 4000000 in
set_option maxRecDepth 100000 in
theorem btake_num (n : Int) (h : BagT w F b T o) (h0 : findT n T ≠ 0) (h1 : T.all ≤ 1099511627776) (h2 : T.cnt ≤ 1099511627776) : Calls Try.prog 11 #[.pointer (some ⟨b, 0, none⟩), .agg #[.int .i64 n, .bool false]] w (PutG 0 w F b (takeT n T) o) := by
  have HB := Lib.hid (below_alloc (Below.refl w.heap.size w) (Obj.cells #[.int .i64 (n), .bool false] 29))
  have HN := Lib.hid (newB w (Obj.cells #[.int .i64 (n), .bool false] 29))
  have H1 := Lib.hid (h.below HB.out)
  have CR := Lib.hid (right_any H1.out)
  have H := Lib.hid h
  have c0 := cellAt (o := 0) HN.out rfl
  have c1 := cellAt (o := 1) HN.out rfl
  clear h
  go_enter Try.func11, Try.ntmps11
  go_wp2_with fail
  refine CR.out.mono ?_
  rintro e w1 ⟨rfl, rfl⟩
  go_wp2_with fail
  refine (check_ok n false (.inl rfl) _).mono ?_
  rintro e w1 ⟨rfl, hb1⟩
  have HB1 := Lib.hid (HB.out.trans (hb1.mono HB.out.size))
  have HN1 := Lib.hid (keepB HN.out hb1)
  clear hb1 c0 c1
  have c0 := cellAt (o := 0) HN1.out rfl
  have c1 := cellAt (o := 1) HN1.out rfl
  have CC := Lib.hid (bcount_any (n) (false) (H.out.below HB1.out))
  obtain ⟨cn, hcn⟩ : ∃ c, countB (n) (false) T o = c := ⟨_, rfl⟩
  rw [hcn] at CC
  have HCN := Lib.hid hcn
  clear hcn
  go_wp2_with fail
  refine CC.out.mono ?_
  rintro e w2 ⟨rfl, hb2⟩
  have HB2 := Lib.hid (HB1.out.trans (hb2.mono HB1.out.size))
  have HN2 := Lib.hid (keepB HN1.out hb2)
  clear hb2 c0 c1 CC
  have c0 := cellAt (o := 0) HN2.out rfl
  have c1 := cellAt (o := 1) HN2.out rfl
  have hne : ¬ (cn : Int) = 0 := by have := HCN.out; simp only [countB, chk] at this; simp at this; omega
  obtain ⟨p, Ft, g1, g2, g3, g4⟩ := H.out.old
  have CP := Lib.hid (fun W (hb : Below w.heap.size w W) => take_any (n := n) T (a := b) (off := 1) (cs := bagC p o) (findT_has h0) (keepB g2 hb) rfl (g3.below hb) (fun i hi => (g4 i hi).2) (fun i hi => Nat.lt_of_lt_of_le (g4 i hi).1.2 hb.size) h1 h2)
  have HF := Lib.hid g1
  have H4 := Lib.hid g4
  clear g1 g2 g3 g4 H H1 h0
  go_wp2_with fail
  refine wp_region_here 6 [(0, false), (1, false), (2, false), (3, false), (4, false), (5, false)] (fun _ => .cells #[] 0) (by kernel_rfl) (by kernel_rfl) ?_
  repeat (first | (refine wpP_q rfl rfl rfl ?_; apply Exists.intro; refine ⟨fun w' hw' => ?_, fun K hK => ?_⟩; (focus ((have q0 := keepB HN2.out hw'; have d0 := cellAt (o := 0) q0 rfl; clear q0); go_simp; first | exact quiet_value | fail)); simp only [Act.put, List.setIfInBounds_toArray, List.set_cons_zero, List.set_cons_succ]; refine hK.out _ ?_; clear hK K) | (refine wpP_skip rfl rfl rfl (fun K hK => ?_); simp only [Act.put, List.setIfInBounds_toArray, List.set_cons_zero, List.set_cons_succ]; refine hK.out _ ?_; clear hK K))
  refine wpP_nil ?_
  intro w3 hb3
  have HB3 := Lib.hid (HB2.out.trans (hb3.mono HB2.out.size))
  clear hb3
  try simp only [List.drop_succ_cons, List.drop_zero]
  go_wp2_with fail
  refine (CP.out _ HB3.out).mono ?_
  rintro e w4 ⟨rfl, p', g1, g2, g4⟩
  have R1 : Hid (w4.heap[b]? = some (.cells (bagC p' o) 58 (0, 0))) := Lib.hid g1
  have R2 := Lib.hid g2
  have R4 : Hid (Only F w w4) := Lib.hid (((Only.of_below HB3.out).trans g4).mono (fun i _ h => h.elim (fun e => e ▸ HF.out.1) (fun h => (H4.out i h).1.1)))
  clear g1 g2 g4 CP
  go_wp2_with fail
  refine bodyPost_ret (v := .int .i64 0) (by simp only [results, Try.results11]; go_simp) rfl ⟨rfl, ?_⟩
  exact ⟨_, BagT.old ⟨p', _, HF.out.1, R1.out, R2.out, fun i hi => ⟨(H4.out i hi).1.1, (H4.out i hi).2⟩⟩, fun i hi => ⟨.inl hi.1, hi.2⟩, R4.out⟩
/-- A value is taken. -/
def takeB (n : Int) (ov : Bool) (T : Tr) (o : Nat) : Int × Tr × Nat := if chk n ov = 0 then (if countB n ov T o = 0 then (6, T, o) else if ov = true then (0, T, o - 1) else (0, takeT n T, o)) else (2, T, o)
theorem btake_any (n : Int) (ov : Bool) (h : BagT w F b T o) (h0 : o ≤ 1099511627776) (h1 : T.all ≤ 1099511627776) (h2 : T.cnt ≤ 1099511627776) :
    Calls Try.prog 11 #[.pointer (some ⟨b, 0, none⟩), .agg #[.int .i64 n, .bool ov]] w (PutG (takeB n ov T o).1 w F b (takeB n ov T o).2.1 (takeB n ov T o).2.2) := by
  unfold takeB
  by_cases hc : chk n ov = 0
  · rw [if_pos hc]
    have hn : ov = false ∨ n = 0 := by unfold chk at hc; cases ov <;> simp_all
    by_cases hz : countB n ov T o = 0
    · rw [if_pos hz]; exact btake_none n ov hn h hz
    · rw [if_neg hz]
      unfold countB at hz
      rw [if_pos hc] at hz
      cases ov
      · rw [if_neg (by simp)] at hz ⊢; exact btake_num n h hz h1 h2
      · rw [if_pos rfl] at hz ⊢
        obtain rfl : n = 0 := hn.elim (fun e => by cases e) id
        exact btake_over h (by omega) h0
  · rw [if_neg hc]
    have hn : ov = true ∧ n ≠ 0 := by unfold chk at hc; split at hc <;> simp_all
    obtain ⟨rfl, hn⟩ := hn
    exact btake_bad n hn h
end
end Go.Proofs.Ytjcbikkihijkiaa
