/- A buffer's blocks in memory: compare, points. -/
import Derived.Test.YtfblmmnofhkkaaaSlL
import Derived.Test.YtfblmmnofhkkaaaRegF
import Derived.Test.YtfblmmnofhkkaaaProg
import Derived.WalkKit
import Derived.WalkSpells
import Derived.WalkLawsBesides
import Derived.Lib.Hide
import Derived.IntWalk
namespace Go.Proofs.Ytfblmmnofhkkaaa
open Go.RowKit
theorem add_mk (g o j : Nat) : (⟨g, o, none⟩ : Addr).add j = ⟨g, o + j, none⟩ := by unfold Addr.add; split <;> simp_all
/-- A point in memory. -/
def PtAt (w : World) (g o : Nat) (p : Pt) : Prop := w.cell? ⟨g, o, none⟩ = some (.int .i64 p.1) ∧ w.cell? ⟨g, o + 1, none⟩ = some (.int .i64 p.2) ∧ w.cell? ⟨g, o + 2, none⟩ = some (.bool false)
theorem PtAt.below {w w' : World} {g o : Nat} {p : Pt} (h : PtAt w g o p) (hg : g < w.heap.size) (hb : Below w.heap.size w w') : PtAt w' g o p :=
  ⟨(hb.cell (p := ⟨g, o, none⟩) hg).trans h.1, (hb.cell (p := ⟨g, o + 1, none⟩) hg).trans h.2.1, (hb.cell (p := ⟨g, o + 2, none⟩) hg).trans h.2.2⟩
/-- The cells of a block of points. -/
structure BlkC (c : Array Value) (P : List Pt) : Prop where
  size : c.size = 193
  n : c[0]? = some (.int .i64 (P.length : Int))
  pts : (c.toList.drop 1).take (P.length * 3) = pcs P
  le : P.length ≤ 64
/-- A block of points at p. -/
def BlkW (w : World) (p : Nat) (P : List Pt) : Prop := ∃ c : Array Value, w.heap[p]? = some (.cells c 64 (0, 0)) ∧ BlkC c P
theorem BlkC.get {c : Array Value} {P : List Pt} (h : BlkC c P) {j : Nat} {u : Value} (hj : (pcs P)[j]? = some u) : c[1 + j]? = some u := by
  rw [← h.pts, List.getElem?_take] at hj
  split at hj
  · rw [List.getElem?_drop] at hj; simpa using hj
  · cases hj
section
variable {w w' : World} {p : Nat} {P : List Pt} {S : Nat → Prop}
theorem BlkW.lt (h : BlkW w p P) : p < w.heap.size := by obtain ⟨c, h1, _⟩ := h; exact only_lt h1
theorem BlkW.le (h : BlkW w p P) : P.length ≤ 64 := by obtain ⟨c, _, h2⟩ := h; exact h2.le
theorem BlkW.keep (h : BlkW w p P) (ho : Only S w w') (hn : ¬ S p) : BlkW w' p P := by obtain ⟨c, h1, h2⟩ := h; exact ⟨c, ho.get h1 hn, h2⟩
theorem BlkW.below (h : BlkW w p P) (hb : Below w.heap.size w w') : BlkW w' p P := h.keep (S := fun _ => False) (Only.of_below hb) (fun h => h)
theorem BlkW.count (h : BlkW w p P) : w.cell? ⟨p, 0, none⟩ = some (.int .i64 (P.length : Int)) := by obtain ⟨c, h1, h2⟩ := h; exact cellAt h1 h2.n
theorem BlkW.reads (h : BlkW w p P) : Reads w w.heap.size 3 (some ⟨p, 1, none⟩) P.length (pcs P) :=
  ⟨pcs_len P, fun _ => ⟨_, rfl, h.lt, fun j u hu => by
    obtain ⟨c, h1, h2⟩ := h
    rw [add_mk]
    exact cellAt h1 (h2.get hu)⟩⟩
theorem BlkW.pt (h : BlkW w p P) {k : Nat} (hk : k < P.length) : PtAt w p (1 + k * 3) P[k] := by
  obtain ⟨c, h1, h2⟩ := h
  obtain ⟨a1, a2, a3⟩ := pcs_get P k hk
  exact ⟨cellAt h1 (h2.get a1), cellAt h1 (h2.get a2), cellAt h1 (h2.get a3)⟩
end
/-- cmp.Compare -/
def cmpI (a b : Int) : Int := if a < b then -1 else if b < a then 1 else 0
theorem isNaN_any (a : Int) (w : World) : Calls Try.prog 48 #[.int .i64 a] w fun e w' => e = .returned (.bool false) ∧ w = w' := by
  go_enter Try.func48, Try.ntmps48
  go_wp2_with fail
  go_ret
  exact ⟨rfl, rfl⟩
theorem compare_any (a b : Int) (w : World) : Calls Try.prog 40 #[.int .i64 a, .int .i64 b] w fun e w' => e = .returned (.int .i64 (cmpI a b)) ∧ w = w' := by
  have N1 := Lib.hid (isNaN_any a w)
  have N2 := Lib.hid (isNaN_any b w)
  by_cases h1 : a < b
  · rw [show cmpI a b = -1 from if_pos h1]
    go_enter Try.func40, Try.ntmps40
    go_wp2_with (first | (refine N1.out.mono ?_; rintro e w1 ⟨rfl, rfl⟩) | (refine N2.out.mono ?_; rintro e w1 ⟨rfl, rfl⟩))
    go_ret
    exact ⟨rfl, rfl⟩
  · by_cases h2 : b < a
    · rw [show cmpI a b = 1 from (if_neg h1).trans (if_pos h2)]
      go_enter Try.func40, Try.ntmps40
      go_wp2_with (first | (refine N1.out.mono ?_; rintro e w1 ⟨rfl, rfl⟩) | (refine N2.out.mono ?_; rintro e w1 ⟨rfl, rfl⟩))
      go_ret
      exact ⟨rfl, rfl⟩
    · rw [show cmpI a b = 0 from (if_neg h1).trans (if_neg h2)]
      go_enter Try.func40, Try.ntmps40
      go_wp2_with (first | (refine N1.out.mono ?_; rintro e w1 ⟨rfl, rfl⟩) | (refine N2.out.mono ?_; rintro e w1 ⟨rfl, rfl⟩))
      go_ret
      exact ⟨rfl, rfl⟩
theorem pArr : Try.prog.underlying 62 = some (.array 64 45) := by kernel_rfl
theorem pInfo : (Try.prog.info? 45).map (fun i => (i.zero, i.size, i.bytes)) = some (some (.agg #[.int .i64 0, .int .i64 0, .bool false]), 3, 24) := by kernel_rfl
theorem pSize (W : World) : (sizeOf 45).run Try.prog W = .ok 3 W := by
  obtain ⟨i, hi, _, h1, _⟩ := info_parts pInfo
  simp [sizeOf, typeInfo, hi, h1]
theorem pLen : Try.prog.arrayLen 62 = 64 := by simp [Program.arrayLen]
theorem pElem : Try.prog.elem 62 = 45 := by simp [Program.elem]
theorem pArr' : Try.prog.underlying 62 = some (.array (Try.prog.arrayLen 62) (Try.prog.elem 62)) := by rw [pLen, pElem, pArr]
/-- x.l[:h] -/
theorem arr_h (p h : Nat) (hh : h ≤ 64) (W : World) : (Instr.sliceAt 62 (.pointer (some ⟨p, 1, none⟩)) none (some (.int .i64 (h : Int))) none).run Try.prog W = .ok (.slice (some ⟨p, 1, none⟩) h 64) W := by
  rw [run_sliceAt_array_h W _ ⟨p, 1, none⟩ pArr' .i64 (h : Int) (by omega) (by rw [pLen]; omega), pElem, pSize, pLen]
  simp only [Result.andThen_ok, slicedAt, Int.toNat_natCast, Nat.sub_zero]
  rw [if_neg (by omega), add_mk, Nat.zero_mul, Nat.add_zero]
/-- x.l[l:h] -/
theorem arr_lh (p l h : Nat) (hl : l ≤ h) (hh : h ≤ 64) (W : World) : (Instr.sliceAt 62 (.pointer (some ⟨p, 1, none⟩)) (some (.int .i64 (l : Int))) (some (.int .i64 (h : Int))) none).run Try.prog W = .ok (.slice (some (if l = 64 then ⟨p, 1, none⟩ else ⟨p, 1 + l * 3, none⟩)) (h - l) (64 - l)) W := by
  rw [run_sliceAt_array_lh W _ ⟨p, 1, none⟩ pArr' .i64 .i64 (l : Int) (h : Int) (by omega) (by omega) (by rw [pLen]; omega), pElem, pSize, pLen]
  simp only [Result.andThen_ok, slicedAt, Int.toNat_natCast, add_mk]
  by_cases hl : l = 64
  · rw [if_pos hl, if_pos hl.symm]
  · rw [if_neg hl, if_neg (fun e => hl e.symm)]
/-- x.l[:] -/
theorem arr_all (p : Nat) (W : World) : (Instr.sliceAt 62 (.pointer (some ⟨p, 1, none⟩)) none none none).run Try.prog W = .ok (.slice (some ⟨p, 1, none⟩) 64 64) W := by
  rw [run_sliceAt_array_all W _ ⟨p, 1, none⟩ pArr', pElem, pSize, pLen]
  simp only [Result.andThen_ok, slicedAt, Nat.sub_zero]
  rw [if_neg (by omega), add_mk, Nat.zero_mul, Nat.add_zero]
theorem bpoints_any {w : World} {p : Nat} {P : List Pt} (h : BlkW w p P) : Calls Try.prog 44 #[.pointer (some ⟨p, 0, none⟩)] w fun e w' => e = .returned (.slice (some ⟨p, 1, none⟩) P.length 64) ∧ Below w.heap.size w w' := by
  have HC := Lib.hid h
  have hle := h.le
  obtain ⟨n, hn⟩ : ∃ n, P.length = n := ⟨_, rfl⟩
  have HN := Lib.hid hn
  rw [hn] at hle ⊢
  have ha := arr_h p n hle
  clear h hn
  go_enter Try.func44, Try.ntmps44
  go_wp2_with fail
  refine wp_region_here 9 [(0, false), (1, false), (2, false), (3, false), (4, false), (5, false), (6, false), (7, false), (8, false)] (fun _ => .cells #[] 0) (by kernel_rfl) (by kernel_rfl) ?_
  repeat (first | (refine wpP_q rfl rfl rfl ?_; apply Exists.intro; refine ⟨fun w' hw' => ?_, fun K hK => ?_⟩; (focus ((have q0 := (HC.out.below hw').count; rw [HN.out] at q0); go_simp; first | exact quiet_value | fail)); simp only [Act.put, List.setIfInBounds_toArray, List.set_cons_zero, List.set_cons_succ]; refine hK.out _ ?_; clear hK K) | (refine wpP_skip rfl rfl rfl (fun K hK => ?_); simp only [Act.put, List.setIfInBounds_toArray, List.set_cons_zero, List.set_cons_succ]; refine hK.out _ ?_; clear hK K))
  refine wpP_nil ?_
  intro w1 hb1
  have HB := Lib.hid hb1
  clear hb1
  (try simp only [List.drop_succ_cons]); (try simp only [List.drop_zero]); (try simp only [List.drop_nil])
  go_wp2_with fail
  go_ret
  exact ⟨rfl, HB.out⟩

/-! ### slices.BinarySearchFunc -/
/-- How many of the keys stand before one. -/
def cntLt (t : Int) (ks : List Int) : Nat := ks.countP (fun k => decide (k < t))
def ksAt (ks : List Int) (i : Nat) : Int := ks.getD i 0
/-- The call of the comparing function: of an element and the key that is looked for. -/
def CmpOf (f : Nat) (env : World → Prop) (el : Nat → Value) (ks : List Int) (t : Int) : Prop := ∀ i, i < ks.length → ∀ W, env W → Calls Try.prog f #[el i, .int .i64 t] W fun e w' => e = .returned (.int .i64 (cmpI (ksAt ks i) t)) ∧ Below W.heap.size W w'
theorem cmpI_neg {a b : Int} : cmpI a b < 0 ↔ a < b := by unfold cmpI; split <;> (try split) <;> simp_all <;> omega
theorem cmpI_zero {a b : Int} : cmpI a b = 0 ↔ a = b := by unfold cmpI; split <;> (try split) <;> simp_all <;> omega
theorem cntLt_of {t : Int} : ∀ {ks : List Int} {i : Nat}, i ≤ ks.length → (∀ m, m < i → ksAt ks m < t) → (∀ m, i ≤ m → m < ks.length → t ≤ ksAt ks m) → cntLt t ks = i
  | [], i, h, _, _ => by simp at h; simp [h, cntLt]
  | a :: r, 0, _, _, h2 => by
    unfold cntLt
    rw [List.countP_eq_zero]
    intro x hx
    obtain ⟨m, hm, rfl⟩ := List.getElem_of_mem hx
    have := h2 m (Nat.zero_le _) hm
    simp only [ksAt, List.getD_eq_getElem?_getD, List.getElem?_eq_getElem hm, Option.getD_some] at this
    simp; omega
  | a :: r, i + 1, hi, h1, h2 => by
    have ha : a < t := by simpa [ksAt] using h1 0 (Nat.succ_pos _)
    have := cntLt_of (t := t) (ks := r) (i := i) (by simpa using hi) (fun m hm => by simpa [ksAt] using h1 (m + 1) (by omega)) (fun m h3 h4 => by simpa [ksAt] using h2 (m + 1) (by omega) (by simpa using h4))
    unfold cntLt at this ⊢
    rw [List.countP_cons_of_pos (by simpa using ha), this]
end Go.Proofs.Ytfblmmnofhkkaaa
