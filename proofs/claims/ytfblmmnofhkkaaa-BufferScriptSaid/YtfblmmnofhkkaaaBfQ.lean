/- A buffer in memory, as a list of points: right, Len, Floor, At, Last, Ends. -/
import Derived.Test.YtfblmmnofhkkaaaBfL
namespace Go.Proofs.Ytfblmmnofhkkaaa
open Go.RowKit
/-- A made buffer at b, in memory of F: its points, its floor. -/
def BufL (w : World) (F : Nat → Prop) (b : Nat) (P : List Pt) (fl : Int) : Prop := ∃ Z v, BufC w F b Z v fl P.length ∧ Good (Z.map (·.2)) ∧ P = (Z.map (·.2)).flatten ∧ P.length ≤ 65536
abbrev bptr (b : Nat) : Value := .pointer (some ⟨b, 0, none⟩)
section
variable {w w' : World} {F : Nat → Prop} {b n : Nat} {Z : List Blk} {v : Value} {fl : Int} {P : List Pt}
theorem BufL.below (h : BufL w F b P fl) (hb : Below w.heap.size w w') : BufL w' F b P fl := by obtain ⟨Z, v, h1, h2⟩ := h; exact ⟨Z, v, h1.below hb, h2⟩
theorem BufL.rise (h : BufL w F b P fl) : Rise P := by obtain ⟨Z, v, _, h2, h3, _⟩ := h; rw [h3]; exact h2.rise
theorem good_len (h : Good (Z.map (·.2))) : Z.length ≤ (Z.map (·.2)).flatten.length := by
  have : ∀ Bs : List (List Pt), (∀ B ∈ Bs, B ≠ []) → Bs.length ≤ Bs.flatten.length := by
    intro Bs
    induction Bs with
    | nil => intro _; simp
    | cons B Bs ih =>
      intro hB
      have h1 := ih (fun B hB' => hB B (by simp [hB']))
      have h2 : 0 < B.length := List.length_pos_iff.2 (hB B (by simp))
      rw [List.flatten_cons, List.length_append, List.length_cons]; omega
  have := this _ h.ne
  simpa using this
theorem bright_any (h : BufC w F b Z v fl n) : Calls Try.prog 30 #[bptr b] w fun e w' => e = .returned (.bool true) ∧ w = w' := by
  have k0 := cellAt (o := 0) h.buf rfl
  clear h
  go_enter Try.func30, Try.ntmps30
  go_wp2_with fail
  go_ret
  exact ⟨rfl, rfl⟩
theorem bright_nil (w : World) : Calls Try.prog 30 #[.pointer none] w fun e w' => e = .returned (.bool false) ∧ w = w' := by
  go_enter Try.func30, Try.ntmps30
  go_wp2_with fail
  go_ret
  exact ⟨rfl, rfl⟩
theorem blen_any (h : BufC w F b Z v fl n) : Calls Try.prog 14 #[bptr b] w fun e w' => e = .returned (.int .i64 (n : Int)) ∧ Below w.heap.size w w' := by
  have CR := Lib.hid (bright_any h)
  have k3 := cellAt (o := 3) h.buf rfl
  clear h
  go_enter Try.func14, Try.ntmps14
  go_wp2_with fail
  refine CR.out.mono ?_
  rintro e w1 ⟨rfl, rfl⟩
  go_wp2_with fail
  go_ret
  exact ⟨rfl, Below.refl _ _⟩
theorem bfloor_any (h : BufC w F b Z v fl n) : Calls Try.prog 16 #[bptr b] w fun e w' => e = .returned (.int .i64 fl) ∧ Below w.heap.size w w' := by
  have CR := Lib.hid (bright_any h)
  have k2 := cellAt (o := 2) h.buf rfl
  clear h
  go_enter Try.func16, Try.ntmps16
  go_wp2_with fail
  refine CR.out.mono ?_
  rintro e w1 ⟨rfl, rfl⟩
  go_wp2_with fail
  go_ret
  exact ⟨rfl, Below.refl _ _⟩
/-- The slice of no blocks. -/
theorem BufC.noB (h : BufC w F b [] v fl n) : ∃ A c, v = .slice A 0 c := by
  obtain ⟨A, c, h1, _⟩ := h.row.form
  exact ⟨A, c, h1⟩
theorem headD_get {B : List Pt} (h : 0 < B.length) : B.headD (0, 0) = B[0] := by cases B with | nil => simp at h | cons a B => rfl
/-- The first times, in memory. -/
theorem BufC.first (h : BufC w F b Z v fl n) (hG : Good (Z.map (·.2))) : ∀ i (hi : i < Z.length), w.cell? ⟨Z[i].1, 1, none⟩ = some (.int .i64 (ksAt (tms (heads (Z.map (·.2)))) i)) := by
  intro i hi
  have hz : Z[i] ∈ Z := List.getElem_mem hi
  have hne : Z[i].2 ≠ [] := hG.ne _ (List.mem_map.2 ⟨_, hz, rfl⟩)
  have hb := (h.blks _ hz).2.pt (k := 0) (List.length_pos_iff.2 hne)
  rw [ksAt_tms (by simpa using hi)]
  simp only [List.getElem_map]
  have := hb.1
  rw [show (Z[i].2.headD (0, 0)) = Z[i].2[0]'(List.length_pos_iff.2 hne) by
    exact headD_get _]
  exact this
theorem bat_L (t : Int) (h : BufC w F b Z v fl n) (hG : Good (Z.map (·.2))) (hne : Z ≠ []) (hN : Z.length ≤ 65536) :
    Calls Try.prog 31 #[bptr b, .int .i64 t] w fun e w' => e = .returned (.int .i64 (atK t (tms (heads (Z.map (·.2)))) : Int)) ∧ Below w.heap.size w w' :=
  bat_any t _ h hne (by omega) (by simp) (h.first hG) (fun i j hij hj => tms_mono hG.heads i j hij (by simpa using hj))
set_option maxRecDepth 100000 in
set_option maxHeartbeats 4000000 in
theorem bAt_any (t : Int) (h : BufL w F b P fl) : Calls Try.prog 20 #[bptr b, .int .i64 t] w fun e w' => e = .returned (.tuple #[.int .i64 (atP t P).1, .bool (atP t P).2]) ∧ Below w.heap.size w w' := by
  obtain ⟨Z, v, h, hG, rfl, hP⟩ := h
  have hZ := good_len hG
  have CR := Lib.hid (bright_any h)
  by_cases hz : Z = []
  · subst hz
    obtain ⟨A, c, rfl⟩ := h.noB
    have k1 := cellAt (o := 1) h.buf rfl
    clear h
    rw [show atP t (List.map (fun (x : Blk) => x.2) []).flatten = (0, false) from rfl]
    go_enter Try.func20, Try.ntmps20
    go_wp2_with fail
    refine CR.out.mono ?_
    rintro e w1 ⟨rfl, rfl⟩
    go_wp2_with fail
    exact bodyPost_ret (v := .tuple #[.int .i64 0, .bool false]) (by simp only [results, Try.results20]; go_simp) rfl ⟨rfl, Below.refl _ _⟩
  · obtain ⟨g, o, c, rfl, h1, h2, h3, h4⟩ := h.form hz
    obtain ⟨hk, q1, q2, q3⟩ := locate t hG (by simpa using hz)
    have CA := Lib.hid (fun W (hW : Below w.heap.size w W) => bat_L t (h.below hW) hG hz (by omega))
    have hk' : atK t (tms (heads (Z.map (·.2)))) < Z.length := by simpa using hk
    have h5 := h4 _ hk'
    have hbl := (h.blks _ (List.getElem_mem hk')).2
    have hrz : Rise (Z[atK t (tms (heads (Z.map (·.2))))]).2 := hG.split.1 _ (List.mem_map.2 ⟨_, List.getElem_mem hk', rfl⟩)
    have hat : atP t (Z.map (·.2)).flatten = atP t (Z[atK t (tms (heads (Z.map (·.2))))]).2 := by
      rw [flat_at _ hk, atP_mid q1 q2]; simp
    rw [hat, atP_has hrz]
    have hb := h.buf
    clear h2 h4 q1 q2 q3 hat
    obtain ⟨k, hkk⟩ : ∃ k, atK t (tms (heads (Z.map (·.2)))) = k := ⟨_, rfl⟩
    simp only [hkk] at CA hk' h5 hbl hrz ⊢
    obtain ⟨x, X, hx⟩ : ∃ x X, Z[k] = (x, X) := ⟨_, _, rfl⟩
    rw [hx] at h5 hbl hrz ⊢
    simp only at h5 hbl hrz ⊢
    obtain ⟨zl, hzl⟩ : ∃ n, Z.length = n := ⟨_, rfl⟩
    rw [hzl] at hk' h1 hZ hb
    clear hx hkk hk h
    have HF := Lib.hid (fun W (hW : Below w.heap.size w W) => bfind_any t (hbl.below hW) hrz)
    obtain ⟨m, hm⟩ : ∃ m, cntLt t (tms X) = m := ⟨_, rfl⟩
    have HB := Lib.hid hb
    have k1 := cellAt (o := 1) hb rfl
    have H5 := Lib.hid h5
    have hX := hbl.le
    have hze : ¬ (zl : Int) = 0 := by omega
    clear hb
    by_cases hh : hasT t X = true
    · rw [if_pos hh]
      obtain ⟨m', hm', hl, he⟩ := hasT_at hrz hh
      have hpt := hbl.pt (k := m') hl
      have hge : X.getD m' (0, 0) = X[m'] := by rw [List.getD_eq_getElem?_getD, List.getElem?_eq_getElem hl]; rfl
      rw [hm', hge]
      rw [hm', hh] at HF
      obtain ⟨y, hy⟩ : ∃ y, X[m'] = y := ⟨_, rfl⟩
      rw [hy] at hpt ⊢
      have HPT := Lib.hid hpt
      have HLT := Lib.hid hbl.lt
      clear hbl hpt hge hy
      go_enter Try.func20, Try.ntmps20
      go_wp2_with fail
      refine CR.out.mono ?_
      rintro e w1 ⟨rfl, rfl⟩
      go_wp2_with fail
      refine wp_region_here 10 [(0, false), (1, false), (2, false), (3, false), (4, false), (5, false), (6, false), (7, false), (8, false), (9, false)] (fun _ => .cells #[] 0) (by kernel_rfl) (by kernel_rfl) ?_
      repeat (first | (refine wpP_q rfl rfl rfl ?_; apply Exists.intro; refine ⟨fun w' hw' => ?_, fun K hK => ?_⟩; (focus ((have q0 := cellAt (o := 1) (keepB HB.out hw') rfl; have q5 := (hw'.cell (p := ⟨g, o + k, none⟩) h3).trans H5.out); go_simp; first | exact quiet_value | first | with_reducible exact quiet_enter (CA.out _ hw'))); simp only [Act.put, List.setIfInBounds_toArray, List.set_cons_zero, List.set_cons_succ]; refine hK.out _ ?_; clear hK K) | (refine wpP_skip rfl rfl rfl (fun K hK => ?_); simp only [Act.put, List.setIfInBounds_toArray, List.set_cons_zero, List.set_cons_succ]; refine hK.out _ ?_; clear hK K))
      refine wpP_nil ?_
      intro w1 hb1
      have HB1 := Lib.hid hb1
      clear hb1
      (try simp only [List.drop_succ_cons]); (try simp only [List.drop_zero]); (try simp only [List.drop_nil])
      go_wp2_with fail
      refine (HF.out _ HB1.out).mono ?_
      rintro e w2 ⟨rfl, hb2⟩
      have HB2 := Lib.hid (HB1.out.trans (hb2.mono HB1.out.size))
      clear hb2
      have p1 := (HPT.out.below HLT.out HB2.out).2.1
      have hml : (m' : Int) < 64 := by omega
      go_wp2_with fail
      exact bodyPost_ret (v := .tuple #[.int .i64 y.2, .bool true]) (by simp only [results, Try.results20]; go_simp) rfl ⟨rfl, HB2.out⟩
    · rw [if_neg hh]
      simp only [Bool.not_eq_true] at hh
      rw [hm, hh] at HF
      clear hbl
      go_enter Try.func20, Try.ntmps20
      go_wp2_with fail
      refine CR.out.mono ?_
      rintro e w1 ⟨rfl, rfl⟩
      go_wp2_with fail
      refine wp_region_here 10 [(0, false), (1, false), (2, false), (3, false), (4, false), (5, false), (6, false), (7, false), (8, false), (9, false)] (fun _ => .cells #[] 0) (by kernel_rfl) (by kernel_rfl) ?_
      repeat (first | (refine wpP_q rfl rfl rfl ?_; apply Exists.intro; refine ⟨fun w' hw' => ?_, fun K hK => ?_⟩; (focus ((have q0 := cellAt (o := 1) (keepB HB.out hw') rfl; have q5 := (hw'.cell (p := ⟨g, o + k, none⟩) h3).trans H5.out); go_simp; first | exact quiet_value | first | with_reducible exact quiet_enter (CA.out _ hw'))); simp only [Act.put, List.setIfInBounds_toArray, List.set_cons_zero, List.set_cons_succ]; refine hK.out _ ?_; clear hK K) | (refine wpP_skip rfl rfl rfl (fun K hK => ?_); simp only [Act.put, List.setIfInBounds_toArray, List.set_cons_zero, List.set_cons_succ]; refine hK.out _ ?_; clear hK K))
      refine wpP_nil ?_
      intro w1 hb1
      have HB1 := Lib.hid hb1
      clear hb1
      (try simp only [List.drop_succ_cons]); (try simp only [List.drop_zero]); (try simp only [List.drop_nil])
      go_wp2_with fail
      refine (HF.out _ HB1.out).mono ?_
      rintro e w2 ⟨rfl, hb2⟩
      have HB2 := Lib.hid (HB1.out.trans (hb2.mono HB1.out.size))
      clear hb2
      go_wp2_with fail
      exact bodyPost_ret (v := .tuple #[.int .i64 0, .bool false]) (by simp only [results, Try.results20]; go_simp) rfl ⟨rfl, HB2.out⟩
/-- The last point, as it is told. -/
def lastV (o : Option Pt) : Value := .tuple #[bpv (o.getD (0, 0)), .bool o.isSome]
set_option maxRecDepth 100000 in
set_option maxHeartbeats 4000000 in
theorem bLast_any (t : Int) (h : BufL w F b P fl) : Calls Try.prog 21 #[bptr b, .int .i64 t] w fun e w' => e = .returned (lastV (lastP t P)) ∧ Below w.heap.size w w' := by
  obtain ⟨Z, v, h, hG, rfl, hP⟩ := h
  have hZ := good_len hG
  have CR := Lib.hid (fun W (hW : Below w.heap.size w W) => bright_any (h.below hW))
  have HA := Lib.hid (below_alloc (Below.refl w.heap.size w) (Obj.cells #[.int .i64 0, .int .i64 0, .bool false] 45))
  have HR := Lib.hid (newB w (Obj.cells #[.int .i64 0, .int .i64 0, .bool false] 45))
  unfold lastV
  by_cases hz : Z = []
  · subst hz
    obtain ⟨A, c, rfl⟩ := h.noB
    have k1 := cellAt (o := 1) (keepB h.buf HA.out) rfl
    have r0 := cellAt (o := 0) HR.out rfl
    have r1 := cellAt (o := 1) HR.out rfl
    have r2 := cellAt (o := 2) HR.out rfl
    have f0 := freeAt 0 HR.out
    have f1 := freeAt 1 HR.out
    have f2 := freeAt 2 HR.out
    clear h
    rw [show lastP t (List.map (fun (x : Blk) => x.2) []).flatten = none from rfl]
    go_enter Try.func21, Try.ntmps21
    go_wp2_with fail
    refine (CR.out _ HA.out).mono ?_
    rintro e w1 ⟨rfl, rfl⟩
    go_wp2_with fail
    exact bodyPost_ret (v := .tuple #[bpv (0, 0), .bool false]) (by simp only [results, Try.results21]; go_simp) rfl ⟨rfl, HA.out⟩
  · obtain ⟨g, o, c, rfl, h1, h2, h3, h4⟩ := h.form hz
    obtain ⟨hk, q1, q2, q3⟩ := locate t hG (by simpa using hz)
    have CA := Lib.hid (fun W (hW : Below w.heap.size w W) => bat_L t (h.below hW) hG hz (by omega))
    have hk' : atK t (tms (heads (Z.map (·.2)))) < Z.length := by simpa using hk
    have h5 := h4 _ hk'
    have hbl := (h.blks _ (List.getElem_mem hk')).2
    have hrz : Rise (Z[atK t (tms (heads (Z.map (·.2))))]).2 := hG.split.1 _ (List.mem_map.2 ⟨_, List.getElem_mem hk', rfl⟩)
    have hat : lastP t (Z.map (·.2)).flatten = lastP t (Z[atK t (tms (heads (Z.map (·.2))))]).2 := by
      rw [flat_at _ hk, lastP_mid q1 q2 (fun hne => q3 (Nat.pos_of_ne_zero (fun e => hne (by rw [e]; rfl))))]; simp
    rw [hat, lastP_at hrz]
    have hb := h.buf
    clear h2 h4 q1 q2 q3 hat
    obtain ⟨k, hkk⟩ : ∃ k, atK t (tms (heads (Z.map (·.2)))) = k := ⟨_, rfl⟩
    simp only [hkk] at CA hk' h5 hbl hrz ⊢
    obtain ⟨x, X, hx⟩ : ∃ x X, Z[k] = (x, X) := ⟨_, _, rfl⟩
    rw [hx] at h5 hbl hrz ⊢
    simp only at h5 hbl hrz ⊢
    obtain ⟨zl, hzl⟩ : ∃ n, Z.length = n := ⟨_, rfl⟩
    rw [hzl] at hk' h1 hZ hb
    clear hx hkk hk h
    have HF := Lib.hid (fun W (hW : Below w.heap.size w W) => bfind_any t (hbl.below hW) hrz)
    have HB := Lib.hid hb
    have k1 := cellAt (o := 1) (keepB hb HA.out) rfl
    have H5 := Lib.hid h5
    have hX := hbl.le
    have hze : ¬ (zl : Int) = 0 := by omega
    have hcl := cntLe_le (t := t) hrz
    clear hb
    obtain ⟨m, hm⟩ : ∃ m, cntLt t (tms X) = m := ⟨_, rfl⟩
    obtain ⟨ok, hok⟩ : ∃ x, hasT t X = x := ⟨_, rfl⟩
    have hcm : cntLe t X = if ok = true then m + 1 else m := by unfold cntLe; rw [hok, hm]
    rw [hm, hok] at HF
    obtain ⟨q, hq⟩ : ∃ q, cntLe t X = q := ⟨_, rfl⟩
    rw [hq] at hcm hcl ⊢
    clear hq hm hok
    by_cases h0 : q = 0
    · rw [if_pos h0]
      obtain rfl : ok = false := by cases ok <;> simp_all
      obtain rfl : m = 0 := by simp_all
      clear hbl
      go_enter Try.func21, Try.ntmps21
      go_wp2_with fail
      refine (CR.out _ HA.out).mono ?_
      rintro e w1 ⟨rfl, rfl⟩
      go_wp2_with fail
      refine wp_region_here 10 [(0, false), (1, false), (2, false), (3, false), (4, false), (5, false), (6, false), (7, false), (8, false), (9, false)] (fun _ => .cells #[] 0) (by kernel_rfl) (by kernel_rfl) ?_
      repeat (first | (refine wpP_q rfl rfl rfl ?_; apply Exists.intro; refine ⟨fun w' hw' => ?_, fun K hK => ?_⟩; (focus ((have q0 := cellAt (o := 1) (keepB HB.out (HA.out.trans (hw'.mono HA.out.size))) rfl; have q5 := ((HA.out.trans (hw'.mono HA.out.size)).cell (p := ⟨g, o + k, none⟩) h3).trans H5.out); go_simp; first | exact quiet_value | first | with_reducible exact quiet_enter (CA.out _ (HA.out.trans (hw'.mono HA.out.size))))); simp only [Act.put, List.setIfInBounds_toArray, List.set_cons_zero, List.set_cons_succ]; refine hK.out _ ?_; clear hK K) | (refine wpP_skip rfl rfl rfl (fun K hK => ?_); simp only [Act.put, List.setIfInBounds_toArray, List.set_cons_zero, List.set_cons_succ]; refine hK.out _ ?_; clear hK K))
      refine wpP_nil ?_
      intro w1 hb1
      have HB1 := Lib.hid (HA.out.trans (hb1.mono HA.out.size))
      have HR1 := Lib.hid (keepB HR.out hb1)
      clear hb1
      (try simp only [List.drop_succ_cons]); (try simp only [List.drop_zero]); (try simp only [List.drop_nil])
      go_wp2_with fail
      refine (HF.out _ HB1.out).mono ?_
      rintro e w2 ⟨rfl, hb2⟩
      have HB2 := Lib.hid (HB1.out.trans (hb2.mono HB1.out.size))
      have HR2 := Lib.hid (keepB HR1.out hb2)
      clear hb2
      have r0 := cellAt (o := 0) HR2.out rfl
      have r1 := cellAt (o := 1) HR2.out rfl
      have r2 := cellAt (o := 2) HR2.out rfl
      have f0 := freeAt 0 HR2.out
      have f1 := freeAt 1 HR2.out
      have f2 := freeAt 2 HR2.out
      go_wp2_with fail
      refine bodyPost_ret (v := .tuple #[bpv (0, 0), .bool false]) (by simp only [results, Try.results21]; go_simp) rfl ⟨rfl, ((HB2.out.setCell (Nat.le_refl _) _).setCell (Nat.le_refl _) _).setCell (Nat.le_refl _) _⟩
    · rw [if_neg h0]
      have hpt := hbl.pt (k := q - 1) (by omega)
      have hge : X.getD (q - 1) (0, 0) = X[q - 1] := by rw [List.getD_eq_getElem?_getD, List.getElem?_eq_getElem (by omega)]; rfl
      rw [hge]
      obtain ⟨y, hy⟩ : ∃ y, X[q - 1] = y := ⟨_, rfl⟩
      rw [hy] at hpt ⊢
      have HPT := Lib.hid hpt
      have HLT := Lib.hid hbl.lt
      clear hbl hpt hge hy
      obtain ⟨r, rfl⟩ : ∃ r, q = r + 1 := ⟨q - 1, by omega⟩
      simp only [Nat.add_sub_cancel] at HPT
      have hml : (r : Int) < 64 := by omega
      cases ok
      · have hm1 : m = r + 1 := by simpa using hcm.symm
        have hmI : (m : Int) = (r : Int) + 1 := by omega
        have hwr : IntKind.i64.wrap ((m : Int) - 1) = (r : Int) := by rw [IntKind.wrap_i64]; omega
        clear hcm
        have hnn : ¬ (r : Int) < 0 := by omega
        go_enter Try.func21, Try.ntmps21
        go_wp2_with fail
        refine (CR.out _ HA.out).mono ?_
        rintro e w1 ⟨rfl, rfl⟩
        go_wp2_with fail
        refine wp_region_here 10 [(0, false), (1, false), (2, false), (3, false), (4, false), (5, false), (6, false), (7, false), (8, false), (9, false)] (fun _ => .cells #[] 0) (by kernel_rfl) (by kernel_rfl) ?_
        repeat (first | (refine wpP_q rfl rfl rfl ?_; apply Exists.intro; refine ⟨fun w' hw' => ?_, fun K hK => ?_⟩; (focus ((have q0 := cellAt (o := 1) (keepB HB.out (HA.out.trans (hw'.mono HA.out.size))) rfl; have q5 := ((HA.out.trans (hw'.mono HA.out.size)).cell (p := ⟨g, o + k, none⟩) h3).trans H5.out); go_simp; first | exact quiet_value | first | with_reducible exact quiet_enter (CA.out _ (HA.out.trans (hw'.mono HA.out.size))))); simp only [Act.put, List.setIfInBounds_toArray, List.set_cons_zero, List.set_cons_succ]; refine hK.out _ ?_; clear hK K) | (refine wpP_skip rfl rfl rfl (fun K hK => ?_); simp only [Act.put, List.setIfInBounds_toArray, List.set_cons_zero, List.set_cons_succ]; refine hK.out _ ?_; clear hK K))
        refine wpP_nil ?_
        intro w1 hb1
        have HB1 := Lib.hid (HA.out.trans (hb1.mono HA.out.size))
        have HR1 := Lib.hid (keepB HR.out hb1)
        clear hb1
        (try simp only [List.drop_succ_cons]); (try simp only [List.drop_zero]); (try simp only [List.drop_nil])
        go_wp2_with fail
        refine (HF.out _ HB1.out).mono ?_
        rintro e w2 ⟨rfl, hb2⟩
        have HB2 := Lib.hid (HB1.out.trans (hb2.mono HB1.out.size))
        have HR2 := Lib.hid (keepB HR1.out hb2)
        clear hb2
        have r0 := cellAt (o := 0) HR2.out rfl
        have r1 := cellAt (o := 1) HR2.out rfl
        have r2 := cellAt (o := 2) HR2.out rfl
        have f0 := freeAt 0 HR2.out
        have f1 := freeAt 1 HR2.out
        have f2 := freeAt 2 HR2.out
        obtain ⟨p0, p1, p2⟩ := HPT.out.below HLT.out HB2.out
        go_wp2_with fail
        refine bodyPost_ret (v := .tuple #[bpv y, .bool true]) (by simp only [results, Try.results21]; go_simp) rfl ⟨rfl, ((HB2.out.setCell (Nat.le_refl _) _).setCell (Nat.le_refl _) _).setCell (Nat.le_refl _) _⟩
      · obtain rfl : r = m := by simpa using hcm
        have hnn : ¬ (r : Int) < 0 := by omega
        go_enter Try.func21, Try.ntmps21
        go_wp2_with fail
        refine (CR.out _ HA.out).mono ?_
        rintro e w1 ⟨rfl, rfl⟩
        go_wp2_with fail
        refine wp_region_here 10 [(0, false), (1, false), (2, false), (3, false), (4, false), (5, false), (6, false), (7, false), (8, false), (9, false)] (fun _ => .cells #[] 0) (by kernel_rfl) (by kernel_rfl) ?_
        repeat (first | (refine wpP_q rfl rfl rfl ?_; apply Exists.intro; refine ⟨fun w' hw' => ?_, fun K hK => ?_⟩; (focus ((have q0 := cellAt (o := 1) (keepB HB.out (HA.out.trans (hw'.mono HA.out.size))) rfl; have q5 := ((HA.out.trans (hw'.mono HA.out.size)).cell (p := ⟨g, o + k, none⟩) h3).trans H5.out); go_simp; first | exact quiet_value | first | with_reducible exact quiet_enter (CA.out _ (HA.out.trans (hw'.mono HA.out.size))))); simp only [Act.put, List.setIfInBounds_toArray, List.set_cons_zero, List.set_cons_succ]; refine hK.out _ ?_; clear hK K) | (refine wpP_skip rfl rfl rfl (fun K hK => ?_); simp only [Act.put, List.setIfInBounds_toArray, List.set_cons_zero, List.set_cons_succ]; refine hK.out _ ?_; clear hK K))
        refine wpP_nil ?_
        intro w1 hb1
        have HB1 := Lib.hid (HA.out.trans (hb1.mono HA.out.size))
        have HR1 := Lib.hid (keepB HR.out hb1)
        clear hb1
        (try simp only [List.drop_succ_cons]); (try simp only [List.drop_zero]); (try simp only [List.drop_nil])
        go_wp2_with fail
        refine (HF.out _ HB1.out).mono ?_
        rintro e w2 ⟨rfl, hb2⟩
        have HB2 := Lib.hid (HB1.out.trans (hb2.mono HB1.out.size))
        have HR2 := Lib.hid (keepB HR1.out hb2)
        clear hb2
        have r0 := cellAt (o := 0) HR2.out rfl
        have r1 := cellAt (o := 1) HR2.out rfl
        have r2 := cellAt (o := 2) HR2.out rfl
        have f0 := freeAt 0 HR2.out
        have f1 := freeAt 1 HR2.out
        have f2 := freeAt 2 HR2.out
        obtain ⟨p0, p1, p2⟩ := HPT.out.below HLT.out HB2.out
        go_wp2_with fail
        refine bodyPost_ret (v := .tuple #[bpv y, .bool true]) (by simp only [results, Try.results21]; go_simp) rfl ⟨rfl, ((HB2.out.setCell (Nat.le_refl _) _).setCell (Nat.le_refl _) _).setCell (Nat.le_refl _) _⟩
/-- The first and the last time. -/
def endsP (P : List Pt) : Int × Int := ((P.headD (0, 0)).1, (P.getLastD (0, 0)).1)
theorem ends_flat {Bs : List (List Pt)} (hG : Good Bs) (hne : Bs ≠ []) : ∃ (h0 : 0 < Bs.length) (h1 : 0 < Bs[0].length) (h2 : 0 < (Bs[Bs.length - 1]).length), endsP Bs.flatten = (Bs[0][0].1, (Bs[Bs.length - 1])[(Bs[Bs.length - 1]).length - 1].1) := by
  have h0 : 0 < Bs.length := List.length_pos_iff.2 hne
  have h1 : 0 < Bs[0].length := List.length_pos_iff.2 (hG.ne _ (List.getElem_mem h0))
  have h2 : 0 < (Bs[Bs.length - 1]).length := List.length_pos_iff.2 (hG.ne _ (List.getElem_mem _))
  refine ⟨h0, h1, h2, ?_⟩
  unfold endsP
  congr 1
  · cases Bs with
    | nil => exact absurd rfl hne
    | cons B Bs =>
      simp only [List.getElem_cons_zero] at h1
      cases B with
      | nil => simp at h1
      | cons a B => rfl
  · have e := flat_at (Bs := Bs) (Bs.length - 1) (by omega)
    rw [List.drop_eq_nil_of_le (by omega), List.flatten_nil, List.append_nil] at e
    rw [e, List.getLastD_eq_getLast?, List.getLast?_append, List.getLast?_eq_getElem? (l := Bs[Bs.length - 1]), List.getElem?_eq_getElem (by omega)]
    rfl
theorem ends_mem (h : BufC w F b Z v fl n) (hG : Good (Z.map (·.2))) (hz : Z ≠ []) (hZ : Z.length ≤ 65536) : ∃ (g o c zl zm x0 x1 m r : Nat) (t0 t1 : Int), endsP (Z.map (·.2)).flatten = (t0, t1) ∧
    w.heap[b]? = some (.cells (bufC (.slice (some ⟨g, o, none⟩) zl c) fl n) 60 (0, 0)) ∧ w.cell? ⟨g, o, none⟩ = some (.pointer (some ⟨x0, 0, none⟩)) ∧ w.cell? ⟨g, o + zm, none⟩ = some (.pointer (some ⟨x1, 0, none⟩)) ∧
    zl = zm + 1 ∧ zl ≤ 65536 ∧ w.cell? ⟨x1, 0, none⟩ = some (.int .i64 (m : Int)) ∧ m = r + 1 ∧ m ≤ 64 ∧ w.cell? ⟨x0, 1, none⟩ = some (.int .i64 t0) ∧ w.cell? ⟨x1, 1 + r * 3, none⟩ = some (.int .i64 t1) ∧ g < w.heap.size ∧ x0 < w.heap.size ∧ x1 < w.heap.size := by
  obtain ⟨g, o, c, rfl, h1, h2, h3, h4⟩ := h.form hz
  obtain ⟨hk, q1, q2, q3⟩ := ends_flat hG (by simpa using hz)
  have hl : 0 < Z.length := List.length_pos_iff.2 hz
  have b0 := (h.blks _ (List.getElem_mem hl)).2
  have b1 := (h.blks _ (List.getElem_mem (show Z.length - 1 < Z.length by omega))).2
  simp only [List.length_map, List.getElem_map] at q1 q2 q3
  exact ⟨g, o, c, Z.length, Z.length - 1, _, _, _, _, _, _, q3, h.buf, h4 0 hl, h4 (Z.length - 1) (by omega), by omega, hZ, b1.count, by omega, b1.le, (b0.pt q1).1, (b1.pt (by omega)).1, h3, b0.lt, b1.lt⟩
set_option maxRecDepth 100000 in
set_option maxHeartbeats 4000000 in
theorem bEnds_any (h : BufL w F b P fl) : Calls Try.prog 15 #[bptr b] w fun e w' => e = .returned (.tuple #[.int .i64 (endsP P).1, .int .i64 (endsP P).2]) ∧ Below w.heap.size w w' := by
  obtain ⟨Z, v, h, hG, rfl, hP⟩ := h
  have hZ := good_len hG
  have CR := Lib.hid (bright_any h)
  by_cases hz : Z = []
  · subst hz
    have k3 := cellAt (o := 3) h.buf rfl
    rw [show (List.map (fun (x : Blk) => x.2) []).flatten.length = 0 from rfl] at k3
    clear h
    rw [show endsP (List.map (fun (x : Blk) => x.2) []).flatten = (0, 0) from rfl]
    go_enter Try.func15, Try.ntmps15
    go_wp2_with fail
    refine CR.out.mono ?_
    rintro e w1 ⟨rfl, rfl⟩
    go_wp2_with fail
    exact bodyPost_ret (v := .tuple #[.int .i64 0, .int .i64 0]) (by simp only [results, Try.results15]; go_simp) rfl ⟨rfl, Below.refl _ _⟩
  · obtain ⟨g, o, c, zl, zm, x0, x1, m, r, t0, t1, he, hb, a0, a1, hzl, hz5, hc, hm, hm64, p0, p1, hg, hx0, hx1⟩ := ends_mem h hG hz (by omega)
    have hn0 : ¬ (((Z.map (·.2)).flatten.length : Nat) : Int) = 0 := by have := List.length_pos_iff.2 hz; omega
    rw [he]
    have k3 := cellAt (o := 3) hb rfl
    have HB := Lib.hid hb
    have HC := Lib.hid hc
    have A0 := Lib.hid a0
    have A1 := Lib.hid a1
    have P0 := Lib.hid p0
    have P1 := Lib.hid p1
    have hwz : IntKind.i64.wrap ((zl : Int) - 1) = (zm : Int) := by rw [IntKind.wrap_i64]; omega
    have hwm : IntKind.i64.wrap ((m : Int) - 1) = (r : Int) := by rw [IntKind.wrap_i64]; omega
    have hr64 : (r : Int) < 64 := by omega
    have hzz : zm < zl := by omega
    have hz0 : 0 < zl := by omega
    generalize (Z.map (·.2)).flatten.length = nn at *
    clear hb hc a0 a1 p0 p1 h hG he hP hZ hz hzl hm
    go_enter Try.func15, Try.ntmps15
    go_wp2_with fail
    refine CR.out.mono ?_
    rintro e w1 ⟨rfl, rfl⟩
    go_wp2_with fail
    refine wp_region_here 13 [(0, false), (1, false), (2, false), (3, false), (4, false), (5, false), (6, false), (7, false), (8, false), (9, false), (10, false), (11, false), (12, false)] (fun _ => .cells #[] 0) (by kernel_rfl) (by kernel_rfl) ?_
    repeat (first | (refine wpP_q rfl rfl rfl ?_; apply Exists.intro; refine ⟨fun w' hw' => ?_, fun K hK => ?_⟩; (focus ((have q0 := cellAt (o := 1) (keepB HB.out hw') rfl; have q5 := (hw'.cell (p := ⟨g, o + zm, none⟩) hg).trans A1.out); go_simp; first | exact quiet_value | fail)); simp only [Act.put, List.setIfInBounds_toArray, List.set_cons_zero, List.set_cons_succ]; refine hK.out _ ?_; clear hK K) | (refine wpP_skip rfl rfl rfl (fun K hK => ?_); simp only [Act.put, List.setIfInBounds_toArray, List.set_cons_zero, List.set_cons_succ]; refine hK.out _ ?_; clear hK K))
    refine wpP_nil ?_
    intro w1 hb1
    have HB1 := Lib.hid hb1
    clear hb1
    (try simp only [List.drop_succ_cons]); (try simp only [List.drop_zero]); (try simp only [List.drop_nil])
    go_wp2_with fail
    refine wp_region_here 24 [(0, false), (1, false), (2, false), (3, false), (4, false), (5, false), (6, false), (7, false), (8, false), (9, false), (10, false), (11, false), (12, false), (13, false), (14, false), (15, false), (16, false), (17, false), (18, false), (19, false), (20, false), (21, false), (22, false), (23, false)] (fun _ => .cells #[] 0) (by kernel_rfl) (by kernel_rfl) ?_
    repeat (first | (refine wpP_q rfl rfl rfl ?_; apply Exists.intro; refine ⟨fun w' hw' => ?_, fun K hK => ?_⟩; (focus ((have hw := HB1.out.trans (hw'.mono HB1.out.size); have q0 := cellAt (o := 1) (keepB HB.out hw) rfl; have q5 := (hw.cell (p := ⟨g, o, none⟩) hg).trans A0.out; have q6 := (hw.cell (p := ⟨x1, 0, none⟩) hx1).trans HC.out; have q7 := (hw.cell (p := ⟨x0, 1, none⟩) hx0).trans P0.out; have q8 := (hw.cell (p := ⟨x1, 1 + r * 3, none⟩) hx1).trans P1.out; clear hw); go_simp; first | exact quiet_value | fail)); simp only [Act.put, List.setIfInBounds_toArray, List.set_cons_zero, List.set_cons_succ]; refine hK.out _ ?_; clear hK K) | (refine wpP_skip rfl rfl rfl (fun K hK => ?_); simp only [Act.put, List.setIfInBounds_toArray, List.set_cons_zero, List.set_cons_succ]; refine hK.out _ ?_; clear hK K))
    refine wpP_nil ?_
    intro w2 hb2
    have HB2 := Lib.hid (HB1.out.trans (hb2.mono HB1.out.size))
    clear hb2
    (try simp only [List.drop_succ_cons]); (try simp only [List.drop_zero]); (try simp only [List.drop_nil])
    go_wp2_with fail
    exact bodyPost_ret (v := .tuple #[.int .i64 t0, .int .i64 t1]) (by simp only [results, Try.results15]; go_simp) rfl ⟨rfl, HB2.out⟩
end
end Go.Proofs.Ytfblmmnofhkkaaa
