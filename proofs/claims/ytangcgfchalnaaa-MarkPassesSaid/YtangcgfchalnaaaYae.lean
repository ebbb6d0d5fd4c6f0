/- Parts of the proof: BfM BfN BfA. -/
import Derived.Test.YtangcgfchalnaaaYac
import Derived.Test.YtangcgfchalnaaaYad
import Derived.Test.YtangcgfchalnaaaProg
import Derived.WalkKit
import Derived.WalkSpells
import Derived.WalkLawsBesides
import Derived.Lib.Hide
import Derived.IntWalk
/- A buffer's blocks in memory: compare, points. -/
namespace Go.Proofs.Ytangcgfchalnaaa
open Go.RowKit
theorem add_mk (g o j : Nat) : (⟨g, o, none⟩ : Addr).add j = ⟨g, o + j, none⟩ := by unfold Addr.add; split <;> simp_all
/-- A point in memory. -/
def PtAt (w : World) (g o : Nat) (p : Pt) : Prop := w.cell? ⟨g, o, none⟩ = some (.int .i64 p.1) ∧ w.cell? ⟨g, o + 1, none⟩ = some (.int .i64 p.2) ∧ w.cell? ⟨g, o + 2, none⟩ = some (.bool false)
theorem PtAt.below {w w' : World} {g o : Nat} {p : Pt} (h : PtAt w g o p) (hg : g < w.heap.size) (hb : Below w.heap.size w w') : PtAt w' g o p :=
  ⟨(hb.cell (p := ⟨g, o, none⟩) hg).trans h.1, (hb.cell (p := ⟨g, o + 1, none⟩) hg).trans h.2.1, (hb.cell (p := ⟨g, o + 2, none⟩) hg).trans h.2.2⟩
/-- The cells of a block of points. -/
structure BlkC (c : Array Value) (P : List Pt) : Prop where
  size : c.size = 193
  n : c[0]? = some (.int .i64 (P.length : Int))
  pts : (c.toList.drop 1).take (P.length * 3) = pcs P
  le : P.length ≤ 64
/-- A block of points at p. -/
def BlkW (w : World) (p : Nat) (P : List Pt) : Prop := ∃ c : Array Value, w.heap[p]? = some (.cells c 107 (0, 0)) ∧ BlkC c P
theorem BlkC.get {c : Array Value} {P : List Pt} (h : BlkC c P) {j : Nat} {u : Value} (hj : (pcs P)[j]? = some u) : c[1 + j]? = some u := by
  rw [← h.pts, List.getElem?_take] at hj
  split at hj
  · rw [List.getElem?_drop] at hj; simpa using hj
  · cases hj
section
variable {w w' : World} {p : Nat} {P : List Pt} {S : Nat → Prop}
theorem BlkW.lt (h : BlkW w p P) : p < w.heap.size := by obtain ⟨c, h1, _⟩ := h; exact only_lt h1
theorem BlkW.le (h : BlkW w p P) : P.length ≤ 64 := by obtain ⟨c, _, h2⟩ := h; exact h2.le
theorem BlkW.keep (h : BlkW w p P) (ho : Only S w w') (hn : ¬ S p) : BlkW w' p P := by obtain ⟨c, h1, h2⟩ := h; exact ⟨c, ho.get h1 hn, h2⟩
theorem BlkW.below (h : BlkW w p P) (hb : Below w.heap.size w w') : BlkW w' p P := h.keep (S := fun _ => False) (Only.of_below hb) (fun h => h)
theorem BlkW.count (h : BlkW w p P) : w.cell? ⟨p, 0, none⟩ = some (.int .i64 (P.length : Int)) := by obtain ⟨c, h1, h2⟩ := h; exact cellAt h1 h2.n
theorem BlkW.reads (h : BlkW w p P) : Reads w w.heap.size 3 (some ⟨p, 1, none⟩) P.length (pcs P) :=
  ⟨pcs_len P, fun _ => ⟨_, rfl, h.lt, fun j u hu => by
    obtain ⟨c, h1, h2⟩ := h
    rw [add_mk]
    exact cellAt h1 (h2.get hu)⟩⟩
theorem BlkW.pt (h : BlkW w p P) {k : Nat} (hk : k < P.length) : PtAt w p (1 + k * 3) P[k] := by
  obtain ⟨c, h1, h2⟩ := h
  obtain ⟨a1, a2, a3⟩ := pcs_get P k hk
  exact ⟨cellAt h1 (h2.get a1), cellAt h1 (h2.get a2), cellAt h1 (h2.get a3)⟩
end
/-- cmp.Compare -/
def cmpI (a b : Int) : Int := if a < b then -1 else if b < a then 1 else 0
theorem isNaN_any (a : Int) (w : World) : Calls Try.prog 91 #[.int .i64 a] w fun e w' => e = .returned (.bool false) ∧ w = w' := by
  go_enter Try.func91, Try.ntmps91
  go_wp2_with fail
  go_ret
  exact ⟨rfl, rfl⟩
set_option maxRecDepth 100000 in
theorem compare_any (a b : Int) (w : World) : Calls Try.prog 80 #[.int .i64 a, .int .i64 b] w fun e w' => e = .returned (.int .i64 (cmpI a b)) ∧ w = w' := by
  have N1 := Lib.hid (isNaN_any a w)
  have N2 := Lib.hid (isNaN_any b w)
  by_cases h1 : a < b
  · rw [show cmpI a b = -1 from if_pos h1]
    go_enter Try.func80, Try.ntmps80
    go_wp2_with (first | (refine N1.out.mono ?_; rintro e w1 ⟨rfl, rfl⟩) | (refine N2.out.mono ?_; rintro e w1 ⟨rfl, rfl⟩))
    go_ret
    exact ⟨rfl, rfl⟩
  · by_cases h2 : b < a
    · rw [show cmpI a b = 1 from (if_neg h1).trans (if_pos h2)]
      go_enter Try.func80, Try.ntmps80
      go_wp2_with (first | (refine N1.out.mono ?_; rintro e w1 ⟨rfl, rfl⟩) | (refine N2.out.mono ?_; rintro e w1 ⟨rfl, rfl⟩))
      go_ret
      exact ⟨rfl, rfl⟩
    · rw [show cmpI a b = 0 from (if_neg h1).trans (if_neg h2)]
      go_enter Try.func80, Try.ntmps80
      go_wp2_with (first | (refine N1.out.mono ?_; rintro e w1 ⟨rfl, rfl⟩) | (refine N2.out.mono ?_; rintro e w1 ⟨rfl, rfl⟩))
      go_ret
      exact ⟨rfl, rfl⟩
theorem pArr : Try.prog.underlying 105 = some (.array 64 86) := by kernel_rfl
theorem pInfo : (Try.prog.info? 86).map (fun i => (i.zero, i.size, i.bytes)) = some (some (.agg #[.int .i64 0, .int .i64 0, .bool false]), 3, 24) := by kernel_rfl
theorem pSize (W : World) : (sizeOf 86).run Try.prog W = .ok 3 W := by
  obtain ⟨i, hi, _, h1, _⟩ := info_parts pInfo
  simp [sizeOf, typeInfo, hi, h1]
theorem pLen : Try.prog.arrayLen 105 = 64 := by simp [Program.arrayLen]
theorem pElem : Try.prog.elem 105 = 86 := by simp [Program.elem]
theorem pArr' : Try.prog.underlying 105 = some (.array (Try.prog.arrayLen 105) (Try.prog.elem 105)) := by rw [pLen, pElem, pArr]
/-- x.l[:h] -/
theorem arr_h (p h : Nat) (hh : h ≤ 64) (W : World) : (Instr.sliceAt 105 (.pointer (some ⟨p, 1, none⟩)) none (some (.int .i64 (h : Int))) none).run Try.prog W = .ok (.slice (some ⟨p, 1, none⟩) h 64) W := by
  rw [run_sliceAt_array_h W _ ⟨p, 1, none⟩ pArr' .i64 (h : Int) (by omega) (by rw [pLen]; omega), pElem, pSize, pLen]
  simp only [Result.andThen_ok, slicedAt, Int.toNat_natCast, Nat.sub_zero]
  rw [if_neg (by omega), add_mk, Nat.zero_mul, Nat.add_zero]
/-- x.l[l:h] -/
theorem arr_lh (p l h : Nat) (hl : l ≤ h) (hh : h ≤ 64) (W : World) : (Instr.sliceAt 105 (.pointer (some ⟨p, 1, none⟩)) (some (.int .i64 (l : Int))) (some (.int .i64 (h : Int))) none).run Try.prog W = .ok (.slice (some (if l = 64 then ⟨p, 1, none⟩ else ⟨p, 1 + l * 3, none⟩)) (h - l) (64 - l)) W := by
  rw [run_sliceAt_array_lh W _ ⟨p, 1, none⟩ pArr' .i64 .i64 (l : Int) (h : Int) (by omega) (by omega) (by rw [pLen]; omega), pElem, pSize, pLen]
  simp only [Result.andThen_ok, slicedAt, Int.toNat_natCast, add_mk]
  by_cases hl : l = 64
  · rw [if_pos hl, if_pos hl.symm]
  · rw [if_neg hl, if_neg (fun e => hl e.symm)]
/-- x.l[:] -/
theorem arr_all (p : Nat) (W : World) : (Instr.sliceAt 105 (.pointer (some ⟨p, 1, none⟩)) none none none).run Try.prog W = .ok (.slice (some ⟨p, 1, none⟩) 64 64) W := by
  rw [run_sliceAt_array_all W _ ⟨p, 1, none⟩ pArr', pElem, pSize, pLen]
  simp only [Result.andThen_ok, slicedAt, Nat.sub_zero]
  rw [if_neg (by omega), add_mk, Nat.zero_mul, Nat.add_zero]
theorem bpoints_any {w : World} {p : Nat} {P : List Pt} (h : BlkW w p P) : Calls Try.prog 78 #[.pointer (some ⟨p, 0, none⟩)] w fun e w' => e = .returned (.slice (some ⟨p, 1, none⟩) P.length 64) ∧ Below w.heap.size w w' := by
  have HC := Lib.hid h
  have hle := h.le
  obtain ⟨n, hn⟩ : ∃ n, P.length = n := ⟨_, rfl⟩
  have HN := Lib.hid hn
  rw [hn] at hle ⊢
  have ha := arr_h p n hle
  clear h hn
  go_enter Try.func78, Try.ntmps78
  go_wp2_with fail
  refine wp_region_here 9 [(0, false), (1, false), (2, false), (3, false), (4, false), (5, false), (6, false), (7, false), (8, false)] (fun _ => .cells #[] 0) (by kernel_rfl) (by kernel_rfl) ?_
  repeat (first | (refine wpP_q rfl rfl rfl ?_; apply Exists.intro; refine ⟨fun w' hw' => ?_, fun K hK => ?_⟩; (focus ((have q0 := (HC.out.below hw').count; rw [HN.out] at q0); go_simp; first | exact quiet_value | fail)); simp only [Act.put, List.setIfInBounds_toArray, List.set_cons_zero, List.set_cons_succ]; refine hK.out _ ?_; clear hK K) | (refine wpP_skip rfl rfl rfl (fun K hK => ?_); simp only [Act.put, List.setIfInBounds_toArray, List.set_cons_zero, List.set_cons_succ]; refine hK.out _ ?_; clear hK K))
  refine wpP_nil ?_
  intro w1 hb1
  have HB := Lib.hid hb1
  clear hb1
  (try simp only [List.drop_succ_cons]); (try simp only [List.drop_zero]); (try simp only [List.drop_nil])
  go_wp2_with fail
  go_ret
  exact ⟨rfl, HB.out⟩

/-! ### slices.BinarySearchFunc -/
/-- How many of the keys stand before one. -/
def cntLt (t : Int) (ks : List Int) : Nat := ks.countP (fun k => decide (k < t))
def ksAt (ks : List Int) (i : Nat) : Int := ks.getD i 0
/-- The call of the comparing function: of an element and the key that is looked for. -/
def CmpOf (f : Nat) (env : World → Prop) (el : Nat → Value) (ks : List Int) (t : Int) : Prop := ∀ i, i < ks.length → ∀ W, env W → Calls Try.prog f #[el i, .int .i64 t] W fun e w' => e = .returned (.int .i64 (cmpI (ksAt ks i) t)) ∧ Below W.heap.size W w'
theorem cmpI_neg {a b : Int} : cmpI a b < 0 ↔ a < b := by unfold cmpI; split <;> (try split) <;> simp_all <;> omega
theorem cmpI_zero {a b : Int} : cmpI a b = 0 ↔ a = b := by unfold cmpI; split <;> (try split) <;> simp_all <;> omega
theorem cntLt_of {t : Int} : ∀ {ks : List Int} {i : Nat}, i ≤ ks.length → (∀ m, m < i → ksAt ks m < t) → (∀ m, i ≤ m → m < ks.length → t ≤ ksAt ks m) → cntLt t ks = i
  | [], i, h, _, _ => by simp at h; simp [h, cntLt]
  | a :: r, 0, _, _, h2 => by
    unfold cntLt
    rw [List.countP_eq_zero]
    intro x hx
    obtain ⟨m, hm, rfl⟩ := List.getElem_of_mem hx
    have := h2 m (Nat.zero_le _) hm
    simp only [ksAt, List.getD_eq_getElem?_getD, List.getElem?_eq_getElem hm, Option.getD_some] at this
    simp; omega
  | a :: r, i + 1, hi, h1, h2 => by
    have ha : a < t := by simpa [ksAt] using h1 0 (Nat.succ_pos _)
    have := cntLt_of (t := t) (ks := r) (i := i) (by simpa using hi) (fun m hm => by simpa [ksAt] using h1 (m + 1) (by omega)) (fun m h3 h4 => by simpa [ksAt] using h2 (m + 1) (by omega) (by simpa using h4))
    unfold cntLt at this ⊢
    rw [List.countP_cons_of_pos (by simpa using ha), this]
end Go.Proofs.Ytangcgfchalnaaa

/- A buffer's blocks: slices.BinarySearchFunc, at both kinds of elements. -/
namespace Go.Proofs.Ytangcgfchalnaaa
open Go.RowKit
abbrev bpv (p : Pt) : Value := .agg #[.int .i64 p.1, .int .i64 p.2, .bool false]
set_option maxRecDepth 100000 in
set_option maxHeartbeats 4000000 in
theorem bs_blk (g o n c : Nat) (el : Nat → Nat) (ks : List Int) (t : Int) (w : World) (hn : ks.length = n) (hN : n ≤ 1099511627776) (hg : g < w.heap.size) (hcell : ∀ i, i < n → w.cell? ⟨g, o + i, none⟩ = some (.pointer (some ⟨el i, 0, none⟩)))
    (hrise : ∀ i j, i ≤ j → j < n → ksAt ks i ≤ ksAt ks j) (hc : CmpOf 82 (Below w.heap.size w) (fun i => .pointer (some ⟨el i, 0, none⟩)) ks t) :
    Calls Try.prog 81 #[.slice (some ⟨g, o, none⟩) n c, .int .i64 t, .func (.func 82) #[] #[]] w fun e w' =>
      e = .returned (.tuple #[.int .i64 (cntLt t ks : Int), .bool (decide (cntLt t ks < n) && decide (ksAt ks (cntLt t ks) = t))]) ∧ Below w.heap.size w w' := by
  have HC := Lib.hid hcell
  have HM := Lib.hid hc
  have HR := Lib.hid hrise
  have HN := Lib.hid hn
  clear hcell hc hrise hn
  obtain ⟨cnt, hcnt⟩ : ∃ x, cntLt t ks = x := ⟨_, rfl⟩
  obtain ⟨fin, hfin⟩ : ∃ x, (decide (cntLt t ks < n) && decide (ksAt ks (cntLt t ks) = t)) = x := ⟨_, rfl⟩
  have CN := Lib.hid hcnt
  have FIN := Lib.hid hfin
  rw [hfin, hcnt]
  clear hcnt hfin
  go_enter Try.func81, Try.ntmps81
  go_wp2_with fail
  go_loopw [9, 10] (fun i j wr => ∃ lo hi : Nat, i = .int .i64 lo ∧ j = .int .i64 hi ∧ lo ≤ hi ∧ hi ≤ n ∧ Hid (Below w.heap.size w wr) ∧ Hid ((∀ m, m < lo → ksAt ks m < t) ∧ ∀ m, hi ≤ m → m < n → t ≤ ksAt ks m)) (fun i j _ => (intOf j - intOf i).toNat)
  case atStart => exact ⟨0, n, rfl, rfl, Nat.zero_le _, Nat.le_refl _, Lib.hid (Below.refl _ _), Lib.hid ⟨fun m h => absurd h (Nat.not_lt_zero _), fun m h1 h2 => by omega⟩⟩
  case round =>
    obtain ⟨lo, hi, rfl, rfl, hlh, hin, HB, HI⟩ := hrel
    by_cases hlt : lo < hi
    · obtain ⟨md, hmd⟩ : ∃ md, (lo + hi) / 2 = md := ⟨_, rfl⟩
      have hm1 : md < n := by omega
      have hm2 : lo ≤ md ∧ md < hi := by omega
      have cm := HC.out md hm1
      have cc := (HB.out.cell (p := ⟨g, o + md, none⟩) hg).trans cm
      have hq := HM.out md (by rw [HN.out]; exact hm1) wr HB.out
      obtain ⟨cv, hcv⟩ : ∃ cv, cmpI (ksAt ks md) t = cv := ⟨_, rfl⟩
      rw [hcv] at hq
      have HQ := Lib.hid hq
      have HCV := Lib.hid hcv
      clear hq hcv
      have hmI : ((lo : Int) + (hi : Int)) / 2 = (md : Int) := by omega
      by_cases hneg : cv < 0
      · go_wp2_with fail
        clear cm cc
        refine HQ.out.mono ?_
        rintro e w1 ⟨rfl, hb1⟩
        have HB1 := Lib.hid (HB.out.trans (hb1.mono HB.out.size))
        clear hb1
        go_wp2_with fail
        go_roundw
        case rel =>
          have hk : ksAt ks md < t := cmpI_neg.1 (by rw [HCV.out]; exact hneg)
          exact ⟨md + 1, hi, rfl, rfl, by omega, hin, HB1, Lib.hid ⟨fun m hm => by have := HR.out m md (by omega) hm1; omega, HI.out.2⟩⟩
        case measure => simp only [intOf]; omega
      · go_wp2_with fail
        clear cm cc
        refine HQ.out.mono ?_
        rintro e w1 ⟨rfl, hb1⟩
        have HB1 := Lib.hid (HB.out.trans (hb1.mono HB.out.size))
        clear hb1
        go_wp2_with fail
        go_roundw
        case rel =>
          have hk : t ≤ ksAt ks md := Int.not_lt.1 (fun h => by have := cmpI_neg.2 h; rw [HCV.out] at this; omega)
          exact ⟨lo, md, rfl, rfl, by omega, by omega, HB1, Lib.hid ⟨HI.out.1, fun m hm h2 => by have := HR.out md m hm h2; omega⟩⟩
        case measure => simp only [intOf]; omega
    · obtain rfl : hi = lo := by omega
      have ecnt : cnt = hi := by
        rw [← CN.out]
        exact cntLt_of (by rw [HN.out]; exact hin) HI.out.1 (fun m h1 h2 => HI.out.2 m h1 (by rw [HN.out] at h2; exact h2))
      subst ecnt
      have HF := Lib.hid FIN.out
      rw [CN.out] at HF
      by_cases hlt2 : cnt < n
      · have cm := HC.out cnt hlt2
        obtain ⟨md, hmd⟩ : ∃ md, cnt = md := ⟨_, rfl⟩
        rw [hmd] at cm
        have cc := (HB.out.cell (p := ⟨g, o + md, none⟩) hg).trans cm
        subst hmd
        have hq := HM.out cnt (by rw [HN.out]; exact hlt2) wr HB.out
        obtain ⟨cv, hcv⟩ : ∃ cv, cmpI (ksAt ks cnt) t = cv := ⟨_, rfl⟩
        rw [hcv] at hq
        have HQ := Lib.hid hq
        have hz : (cv = 0) ↔ ksAt ks cnt = t := by rw [← hcv]; exact cmpI_zero
        have HZ := Lib.hid hz
        clear hq hcv hz cm
        by_cases h0 : cv = 0
        · obtain rfl : fin = true := by have := HF.out; rw [← this]; simp [hlt2, HZ.out.1 h0]
          go_wp2_with fail
          refine HQ.out.mono ?_
          rintro e w1 ⟨rfl, hb1⟩
          have HB1 := Lib.hid (HB.out.trans (hb1.mono HB.out.size))
          clear hb1
          go_wp2_with fail
          exact bodyPost_ret (v := .tuple #[.int .i64 (cnt : Int), .bool true]) (by simp only [results, Try.results81]; go_simp) rfl ⟨rfl, HB1.out⟩
        · obtain rfl : fin = false := by have := HF.out; rw [← this]; simp [hlt2]; exact fun h => h0 (HZ.out.2 h)
          go_wp2_with fail
          refine HQ.out.mono ?_
          rintro e w1 ⟨rfl, hb1⟩
          have HB1 := Lib.hid (HB.out.trans (hb1.mono HB.out.size))
          clear hb1
          go_wp2_with fail
          exact bodyPost_ret (v := .tuple #[.int .i64 (cnt : Int), .bool false]) (by simp only [results, Try.results81]; go_simp) rfl ⟨rfl, HB1.out⟩
      · obtain rfl : fin = false := by have := HF.out; rw [← this]; simp [hlt2]
        go_wp2_with fail
        exact bodyPost_ret (v := .tuple #[.int .i64 (cnt : Int), .bool false]) (by simp only [results, Try.results81]; go_simp) rfl ⟨rfl, HB.out⟩
set_option maxRecDepth 100000 in
set_option maxHeartbeats 4000000 in
theorem bs_pt (g o n c : Nat) (el : Nat → Pt) (ks : List Int) (t : Int) (w : World) (hn : ks.length = n) (hN : n ≤ 1099511627776) (hg : g < w.heap.size) (hcell : ∀ i, i < n → PtAt w g (o + i * 3) (el i))
    (hrise : ∀ i j, i ≤ j → j < n → ksAt ks i ≤ ksAt ks j) (hc : CmpOf 79 (Below w.heap.size w) (fun i => bpv (el i)) ks t) :
    Calls Try.prog 77 #[.slice (some ⟨g, o, none⟩) n c, .int .i64 t, .func (.func 79) #[] #[]] w fun e w' =>
      e = .returned (.tuple #[.int .i64 (cntLt t ks : Int), .bool (decide (cntLt t ks < n) && decide (ksAt ks (cntLt t ks) = t))]) ∧ Below w.heap.size w w' := by
  have HC := Lib.hid hcell
  have HM := Lib.hid hc
  have HR := Lib.hid hrise
  have HN := Lib.hid hn
  clear hcell hc hrise hn
  obtain ⟨cnt, hcnt⟩ : ∃ x, cntLt t ks = x := ⟨_, rfl⟩
  obtain ⟨fin, hfin⟩ : ∃ x, (decide (cntLt t ks < n) && decide (ksAt ks (cntLt t ks) = t)) = x := ⟨_, rfl⟩
  have CN := Lib.hid hcnt
  have FIN := Lib.hid hfin
  rw [hfin, hcnt]
  clear hcnt hfin
  go_enter Try.func77, Try.ntmps77
  go_wp2_with fail
  go_loopw [9, 10] (fun i j wr => ∃ lo hi : Nat, i = .int .i64 lo ∧ j = .int .i64 hi ∧ lo ≤ hi ∧ hi ≤ n ∧ Hid (Below w.heap.size w wr) ∧ Hid ((∀ m, m < lo → ksAt ks m < t) ∧ ∀ m, hi ≤ m → m < n → t ≤ ksAt ks m)) (fun i j _ => (intOf j - intOf i).toNat)
  case atStart => exact ⟨0, n, rfl, rfl, Nat.zero_le _, Nat.le_refl _, Lib.hid (Below.refl _ _), Lib.hid ⟨fun m h => absurd h (Nat.not_lt_zero _), fun m h1 h2 => by omega⟩⟩
  case round =>
    obtain ⟨lo, hi, rfl, rfl, hlh, hin, HB, HI⟩ := hrel
    by_cases hlt : lo < hi
    · obtain ⟨md, hmd⟩ : ∃ md, (lo + hi) / 2 = md := ⟨_, rfl⟩
      have hm1 : md < n := by omega
      have hm2 : lo ≤ md ∧ md < hi := by omega
      have cm := HC.out md hm1
      obtain ⟨cc, cc2, cc3⟩ := cm.below hg HB.out
      have hq := HM.out md (by rw [HN.out]; exact hm1) wr HB.out
      obtain ⟨cv, hcv⟩ : ∃ cv, cmpI (ksAt ks md) t = cv := ⟨_, rfl⟩
      rw [hcv] at hq
      have HQ := Lib.hid hq
      have HCV := Lib.hid hcv
      clear hq hcv
      have hmI : ((lo : Int) + (hi : Int)) / 2 = (md : Int) := by omega
      by_cases hneg : cv < 0
      · go_wp2_with fail
        clear cm cc
        refine HQ.out.mono ?_
        rintro e w1 ⟨rfl, hb1⟩
        have HB1 := Lib.hid (HB.out.trans (hb1.mono HB.out.size))
        clear hb1
        go_wp2_with fail
        go_roundw
        case rel =>
          have hk : ksAt ks md < t := cmpI_neg.1 (by rw [HCV.out]; exact hneg)
          exact ⟨md + 1, hi, rfl, rfl, by omega, hin, HB1, Lib.hid ⟨fun m hm => by have := HR.out m md (by omega) hm1; omega, HI.out.2⟩⟩
        case measure => simp only [intOf]; omega
      · go_wp2_with fail
        clear cm cc
        refine HQ.out.mono ?_
        rintro e w1 ⟨rfl, hb1⟩
        have HB1 := Lib.hid (HB.out.trans (hb1.mono HB.out.size))
        clear hb1
        go_wp2_with fail
        go_roundw
        case rel =>
          have hk : t ≤ ksAt ks md := Int.not_lt.1 (fun h => by have := cmpI_neg.2 h; rw [HCV.out] at this; omega)
          exact ⟨lo, md, rfl, rfl, by omega, by omega, HB1, Lib.hid ⟨HI.out.1, fun m hm h2 => by have := HR.out md m hm h2; omega⟩⟩
        case measure => simp only [intOf]; omega
    · obtain rfl : hi = lo := by omega
      have ecnt : cnt = hi := by
        rw [← CN.out]
        exact cntLt_of (by rw [HN.out]; exact hin) HI.out.1 (fun m h1 h2 => HI.out.2 m h1 (by rw [HN.out] at h2; exact h2))
      subst ecnt
      have HF := Lib.hid FIN.out
      rw [CN.out] at HF
      by_cases hlt2 : cnt < n
      · have cm := HC.out cnt hlt2
        obtain ⟨md, hmd⟩ : ∃ md, cnt = md := ⟨_, rfl⟩
        rw [hmd] at cm
        obtain ⟨cc, cc2, cc3⟩ := cm.below hg HB.out
        subst hmd
        have hq := HM.out cnt (by rw [HN.out]; exact hlt2) wr HB.out
        obtain ⟨cv, hcv⟩ : ∃ cv, cmpI (ksAt ks cnt) t = cv := ⟨_, rfl⟩
        rw [hcv] at hq
        have HQ := Lib.hid hq
        have hz : (cv = 0) ↔ ksAt ks cnt = t := by rw [← hcv]; exact cmpI_zero
        have HZ := Lib.hid hz
        clear hq hcv hz cm
        by_cases h0 : cv = 0
        · obtain rfl : fin = true := by have := HF.out; rw [← this]; simp [hlt2, HZ.out.1 h0]
          go_wp2_with fail
          refine HQ.out.mono ?_
          rintro e w1 ⟨rfl, hb1⟩
          have HB1 := Lib.hid (HB.out.trans (hb1.mono HB.out.size))
          clear hb1
          go_wp2_with fail
          exact bodyPost_ret (v := .tuple #[.int .i64 (cnt : Int), .bool true]) (by simp only [results, Try.results77]; go_simp) rfl ⟨rfl, HB1.out⟩
        · obtain rfl : fin = false := by have := HF.out; rw [← this]; simp [hlt2]; exact fun h => h0 (HZ.out.2 h)
          go_wp2_with fail
          refine HQ.out.mono ?_
          rintro e w1 ⟨rfl, hb1⟩
          have HB1 := Lib.hid (HB.out.trans (hb1.mono HB.out.size))
          clear hb1
          go_wp2_with fail
          exact bodyPost_ret (v := .tuple #[.int .i64 (cnt : Int), .bool false]) (by simp only [results, Try.results77]; go_simp) rfl ⟨rfl, HB1.out⟩
      · obtain rfl : fin = false := by have := HF.out; rw [← this]; simp [hlt2]
        go_wp2_with fail
        exact bodyPost_ret (v := .tuple #[.int .i64 (cnt : Int), .bool false]) (by simp only [results, Try.results77]; go_simp) rfl ⟨rfl, HB.out⟩
end Go.Proofs.Ytangcgfchalnaaa

/- A buffer in memory; find, at. -/
namespace Go.Proofs.Ytangcgfchalnaaa
open Go.RowKit
theorem findF_any (p : Pt) (t : Int) (w : World) : Calls Try.prog 79 #[bpv p, .int .i64 t] w fun e w' => e = .returned (.int .i64 (cmpI p.1 t)) ∧ Below w.heap.size w w' := by
  have C := Lib.hid (fun W => compare_any p.1 t W)
  have HB := Lib.hid (below_alloc (Below.refl w.heap.size w) (.cells #[.int .i64 p.1, .int .i64 p.2, .bool false] 86))
  have k0 := cellAt (o := 0) (newB w (.cells #[.int .i64 p.1, .int .i64 p.2, .bool false] 86)) rfl
  obtain ⟨a, b⟩ := p
  simp only at *
  go_enter Try.func79, Try.ntmps79
  go_wp2_with fail
  refine (C.out _).mono ?_
  rintro e w1 ⟨rfl, rfl⟩
  go_wp2_with fail
  go_ret
  exact ⟨rfl, HB.out⟩
theorem atF_any (x : Nat) (k t : Int) (w : World) (h : w.cell? ⟨x, 1, none⟩ = some (.int .i64 k)) : Calls Try.prog 82 #[.pointer (some ⟨x, 0, none⟩), .int .i64 t] w fun e w' => e = .returned (.int .i64 (cmpI k t)) ∧ Below w.heap.size w w' := by
  have C := Lib.hid (compare_any k t w)
  go_enter Try.func82, Try.ntmps82
  go_wp2_with fail
  refine C.out.mono ?_
  rintro e w1 ⟨rfl, rfl⟩
  go_wp2_with fail
  go_ret
  exact ⟨rfl, Below.refl _ _⟩
/-! ### Plain: where a time stands among rising points -/
abbrev tms (P : List Pt) : List Int := P.map (·.1)
def hasT (t : Int) (P : List Pt) : Bool := P.any (fun q => decide (q.1 = t))
theorem ksAt_tms {P : List Pt} {i : Nat} (h : i < P.length) : ksAt (tms P) i = P[i].1 := by simp [ksAt, List.getD_eq_getElem?_getD, h]
theorem tms_mono {P : List Pt} (hr : Rise P) : ∀ i j, i ≤ j → j < P.length → ksAt (tms P) i ≤ ksAt (tms P) j := by
  intro i j hij hj
  rw [ksAt_tms hj, ksAt_tms (by omega)]
  rcases Nat.lt_or_eq_of_le hij with h | rfl
  · exact Int.le_of_lt (List.pairwise_iff_getElem.1 hr i j (by omega) hj h)
  · exact Int.le_refl _
theorem cntLt_cons (t k : Int) (ks : List Int) : cntLt t (k :: ks) = cntLt t ks + if k < t then 1 else 0 := by
  unfold cntLt; rw [List.countP_cons]; simp
theorem cntLt_zero {t : Int} {ks : List Int} (h : ∀ k ∈ ks, t ≤ k) : cntLt t ks = 0 := by
  unfold cntLt; rw [List.countP_eq_zero]; intro k hk; have := h k hk; simp; omega
theorem cntLt_le (t : Int) (ks : List Int) : cntLt t ks ≤ ks.length := List.countP_le_length
/-- Rising points, cut at a time. -/
theorem rise_cut (t : Int) : ∀ {P : List Pt}, Rise P → (∀ q ∈ P.take (cntLt t (tms P)), q.1 < t) ∧ (∀ q ∈ P.drop (cntLt t (tms P)), t ≤ q.1)
  | [], _ => ⟨by simp, by simp⟩
  | p :: P, hr => by
    unfold Rise at hr
    rw [List.pairwise_cons] at hr
    obtain ⟨h1, h2⟩ := rise_cut t (P := P) hr.2
    have e : cntLt t (tms (p :: P)) = cntLt t (tms P) + if p.1 < t then 1 else 0 := cntLt_cons t p.1 _
    by_cases hp : p.1 < t
    · rw [e, if_pos hp]
      refine ⟨fun q hq => ?_, fun q hq => h2 q (by simpa using hq)⟩
      rw [List.take_succ_cons, List.mem_cons] at hq
      rcases hq with rfl | hq
      · exact hp
      · exact h1 q hq
    · have : cntLt t (tms P) = 0 := cntLt_zero (fun k hk => by obtain ⟨q, hq, rfl⟩ := List.mem_map.1 hk; have := hr.1 q hq; omega)
      rw [e, if_neg hp, this]
      refine ⟨by simp, fun q hq => ?_⟩
      simp only [Nat.add_zero, List.drop_zero, List.mem_cons] at hq
      rcases hq with rfl | hq
      · omega
      · have := hr.1 q hq; omega
theorem found_has {t : Int} {P : List Pt} (hr : Rise P) : (decide (cntLt t (tms P) < P.length) && decide (ksAt (tms P) (cntLt t (tms P)) = t)) = hasT t P := by
  obtain ⟨h1, h2⟩ := rise_cut t hr
  have hle := cntLt_le t (tms P)
  obtain ⟨k, hk⟩ : ∃ k, cntLt t (tms P) = k := ⟨_, rfl⟩
  rw [hk] at h1 h2 hle ⊢
  rw [Bool.eq_iff_iff]
  unfold hasT
  simp only [Bool.and_eq_true, decide_eq_true_eq, List.any_eq_true]
  constructor
  · rintro ⟨hl, he⟩
    exact ⟨P[k], List.getElem_mem hl, by rw [← he, ksAt_tms hl]⟩
  · rintro ⟨q, hq, he⟩
    obtain ⟨j, hj, rfl⟩ := List.getElem_of_mem hq
    have hjk : k ≤ j := Nat.le_of_not_lt fun h => by
      have := h1 P[j] (List.mem_take_iff_getElem.2 ⟨j, by omega, rfl⟩); omega
    have hkl : k < P.length := by omega
    refine ⟨hkl, ?_⟩
    have h3 := h2 P[k] (List.mem_drop_iff_getElem.2 ⟨0, by simpa using hkl, by simp⟩)
    have h4 := tms_mono hr k j hjk hj
    rw [ksAt_tms hj, ksAt_tms hkl] at h4
    rw [ksAt_tms hkl]
    omega
/-! ### find -/
theorem bfind_any {w : World} {p : Nat} {P : List Pt} (t : Int) (h : BlkW w p P) (hr : Rise P) : Calls Try.prog 56 #[.pointer (some ⟨p, 0, none⟩), .int .i64 t] w fun e w' => e = .returned (.tuple #[.int .i64 (cntLt t (tms P) : Int), .bool (hasT t P)]) ∧ Below w.heap.size w w' := by
  have hle := h.le
  have HC := Lib.hid (bpoints_any h)
  have HS : Hid (∀ W, Below w.heap.size w W → Calls Try.prog 77 #[.slice (some ⟨p, 1, none⟩) P.length 64, .int .i64 t, .func (.func 79) #[] #[]] W fun e w' =>
      e = .returned (.tuple #[.int .i64 (cntLt t (tms P) : Int), .bool (hasT t P)]) ∧ Below W.heap.size W w') := Lib.hid (fun W hW => by
    have hb := h.below hW
    have := bs_pt p 1 P.length 64 (fun i => P.getD i (0, 0)) (tms P) t W (by simp) (by omega) hb.lt (fun i hi => by
      have := hb.pt hi
      rw [List.getD_eq_getElem?_getD, List.getElem?_eq_getElem hi]; exact this) (tms_mono hr) (fun i hi W' _ => by
      have hi' : i < P.length := by simpa using hi
      have e : P.getD i (0, 0) = P[i] := by rw [List.getD_eq_getElem?_getD, List.getElem?_eq_getElem hi']; rfl
      show Calls _ _ #[bpv (P.getD i (0, 0)), _] W' _
      rw [ksAt_tms hi', e]
      exact findF_any _ t W')
    rw [found_has hr] at this
    exact this)
  obtain ⟨n, hn⟩ : ∃ n, P.length = n := ⟨_, rfl⟩
  obtain ⟨cn, hcn⟩ : ∃ n, cntLt t (tms P) = n := ⟨_, rfl⟩
  rw [hn] at HC HS
  rw [hcn] at HS ⊢
  clear h hn hcn
  go_enter Try.func56, Try.ntmps56
  go_wp2_with fail
  refine HC.out.mono ?_
  rintro e w1 ⟨rfl, hb1⟩
  have HB := Lib.hid hb1
  clear hb1
  go_wp2_with fail
  refine (HS.out _ HB.out).mono ?_
  rintro e w2 ⟨rfl, hb2⟩
  have HB2 := Lib.hid (HB.out.trans (hb2.mono HB.out.size))
  clear hb2
  go_wp2_with fail
  exact bodyPost_ret (v := .tuple #[.int .i64 (cn : Int), .bool (hasT t P)]) (by simp only [results, Try.results56]; go_simp) rfl ⟨rfl, HB2.out⟩
/-! ### A buffer -/
/-- A block: where it lies, its points. -/
abbrev Blk := Nat × List Pt
def blkPtrs (Z : List Blk) : List Value := Z.map (fun z => .pointer (some ⟨z.1, 0, none⟩))
abbrev bufC (v : Value) (fl : Int) (n : Nat) : Array Value := #[.bool true, v, .int .i64 fl, .int .i64 (n : Int)]
/-- A made buffer at b, in memory of F: its blocks, its slice of them, its floor, its count. -/
structure BufC (w : World) (F : Nat → Prop) (b : Nat) (Z : List Blk) (v : Value) (fl : Int) (n : Nat) : Prop where
  inF : F b
  buf : w.heap[b]? = some (.cells (bufC v fl n) 102 (0, 0))
  row : RowAt w F 103 1 v Z.length (blkPtrs Z)
  blks : ∀ z ∈ Z, F z.1 ∧ BlkW w z.1 z.2
  nodup : (Z.map (·.1)).Nodup
theorem blkPtrs_one (Z : List Blk) : ∀ u ∈ blkPtrs Z, u.oneCell' = true := fun u hu => by
  obtain ⟨z, _, rfl⟩ := List.mem_map.1 hu
  rfl
section
variable {w w' : World} {F : Nat → Prop} {b n : Nat} {Z : List Blk} {v : Value} {fl : Int}
theorem BufC.below (h : BufC w F b Z v fl n) (hb : Below w.heap.size w w') : BufC w' F b Z v fl n :=
  ⟨h.inF, keepB h.buf hb, h.row.below hb, fun z hz => ⟨(h.blks z hz).1, (h.blks z hz).2.below hb⟩, h.nodup⟩
theorem BufC.weak {G : Nat → Prop} (h : BufC w F b Z v fl n) (hG : ∀ k, k < w.heap.size → F k → G k) : BufC w G b Z v fl n :=
  ⟨hG b (only_lt h.buf) h.inF, h.buf, h.row.weak hG, fun z hz => ⟨hG _ (h.blks z hz).2.lt (h.blks z hz).1, (h.blks z hz).2⟩, h.nodup⟩
theorem BufC.keep {S : Nat → Prop} (h : BufC w F b Z v fl n) (ho : Only S w w') (hn : ∀ k, F k → k < w.heap.size → ¬ S k) : BufC w' F b Z v fl n :=
  ⟨h.inF, ho.get h.buf (hn b h.inF (only_lt h.buf)), h.row.keep ho hn, fun z hz => ⟨(h.blks z hz).1, (h.blks z hz).2.keep ho (hn _ (h.blks z hz).1 (h.blks z hz).2.lt)⟩, h.nodup⟩
/-- The slice of blocks, as it is read. -/
theorem BufC.form (h : BufC w F b Z v fl n) (hz : Z ≠ []) : ∃ g o c, v = .slice (some ⟨g, o, none⟩) Z.length c ∧ Z.length ≤ c ∧ c ≤ maxLen ∧ g < w.heap.size ∧ ∀ i (hi : i < Z.length), w.cell? ⟨g, o + i, none⟩ = some (.pointer (some ⟨Z[i].1, 0, none⟩)) := by
  have hl : 0 < Z.length := List.length_pos_iff.2 hz
  rcases h.row.2 with ⟨_, h0⟩ | ⟨g, o, c, cur, rfl, h2, h3, h4, h5, h6, h7⟩
  · omega
  · refine ⟨g, o, c, rfl, h4, h5, only_lt h3, fun i hi => ?_⟩
    have := row_cells h3 h7 h4 i (.pointer (some ⟨Z[i].1, 0, none⟩)) (by simp [blkPtrs, hi])
    rwa [add_mk] at this
end
/-- The place of the block for a time: of the first times of the blocks. -/
def atK (t : Int) (ks : List Int) : Nat := if (decide (cntLt t ks < ks.length) && decide (ksAt ks (cntLt t ks) = t)) = true then cntLt t ks else cntLt t ks - 1
set_option maxRecDepth 100000 in
theorem bat_any {w : World} {F : Nat → Prop} {b n : Nat} {Z : List Blk} {v : Value} {fl : Int} (t : Int) (ks : List Int) (h : BufC w F b Z v fl n) (hne : Z ≠ []) (hN : Z.length ≤ 1099511627776) (hk : ks.length = Z.length)
    (hks : ∀ i (hi : i < Z.length), w.cell? ⟨Z[i].1, 1, none⟩ = some (.int .i64 (ksAt ks i))) (hm : ∀ i j, i ≤ j → j < Z.length → ksAt ks i ≤ ksAt ks j) :
    Calls Try.prog 57 #[.pointer (some ⟨b, 0, none⟩), .int .i64 t] w fun e w' => e = .returned (.int .i64 (atK t ks : Int)) ∧ Below w.heap.size w w' := by
  obtain ⟨g, o, c, rfl, h1, h2, h3, h4⟩ := h.form hne
  have k1 := cellAt (o := 1) h.buf rfl
  have hle := cntLt_le t ks
  have HS := Lib.hid (bs_blk g o Z.length c (fun i => (Z.getD i (0, [])).1) ks t w hk hN h3 (fun i hi => by
      have e : Z.getD i (0, []) = Z[i] := by rw [List.getD_eq_getElem?_getD, List.getElem?_eq_getElem hi]; rfl
      rw [e]; exact h4 i hi) hm (fun i hi W hW => by
      rw [hk] at hi
      have e : Z.getD i (0, []) = Z[i] := by rw [List.getD_eq_getElem?_getD, List.getElem?_eq_getElem hi]; rfl
      show Calls _ _ #[.pointer (some ⟨(Z.getD i (0, [])).1, 0, none⟩), _] W _
      rw [e]
      exact atF_any _ _ t W ((hW.cell (p := ⟨Z[i].1, 1, none⟩) (h.blks _ (List.getElem_mem hi)).2.lt).trans (hks i hi))))
  unfold atK
  rw [← hk] at HS hN
  obtain ⟨cn, hcn⟩ : ∃ n, cntLt t ks = n := ⟨_, rfl⟩
  obtain ⟨fd, hfd⟩ : ∃ x, (decide (cntLt t ks < ks.length) && decide (ksAt ks (cntLt t ks) = t)) = x := ⟨_, rfl⟩
  rw [hfd, hcn] at HS
  rw [hfd, hcn]
  rw [hcn] at hle
  have hcc : cn ≤ 1099511627776 := by omega
  clear hks hm h4 h hfd hcn h2 h1
  generalize hzl : Z.length = zl at *
  have hwr : IntKind.i64.wrap ((cn : Int) - 1) = (cn : Int) - 1 := by rw [IntKind.wrap_i64]; omega
  go_enter Try.func57, Try.ntmps57
  cases fd
  · rw [if_neg (by simp)]
    by_cases h1 : (1 : Int) < cn
    · have h2 : ¬ ((cn : Int) ≤ 1) := by omega
      go_wp2_with fail
      rw [hk] at HS
      refine HS.out.mono ?_
      rintro e w1 ⟨rfl, hb1⟩
      have HB := Lib.hid hb1
      clear hb1 HS
      go_wp2_with fail
      exact bodyPost_ret (v := .int .i64 ((cn : Int) - 1)) (by simp only [results, Try.results57]; go_simp) rfl ⟨by simp; omega, HB.out⟩
    · have h2 : ((cn : Int) ≤ 1) := by omega
      go_wp2_with fail
      rw [hk] at HS
      refine HS.out.mono ?_
      rintro e w1 ⟨rfl, hb1⟩
      have HB := Lib.hid hb1
      clear hb1 HS
      go_wp2_with fail
      exact bodyPost_ret (v := .int .i64 (0)) (by simp only [results, Try.results57]; go_simp) rfl ⟨by simp; omega, HB.out⟩
  · rw [if_pos rfl]
    by_cases h1 : 0 < cn
    · skip
      go_wp2_with fail
      rw [hk] at HS
      refine HS.out.mono ?_
      rintro e w1 ⟨rfl, hb1⟩
      have HB := Lib.hid hb1
      clear hb1 HS
      go_wp2_with fail
      exact bodyPost_ret (v := .int .i64 ((cn : Int))) (by simp only [results, Try.results57]; go_simp) rfl ⟨by rfl, HB.out⟩
    · obtain rfl : cn = 0 := by omega
      go_wp2_with fail
      rw [hk] at HS
      refine HS.out.mono ?_
      rintro e w1 ⟨rfl, hb1⟩
      have HB := Lib.hid hb1
      clear hb1 HS
      go_wp2_with fail
      exact bodyPost_ret (v := .int .i64 (0)) (by simp only [results, Try.results57]; go_simp) rfl ⟨by rfl, HB.out⟩
end Go.Proofs.Ytangcgfchalnaaa
