/- Labels, samples, changes: rows in memory; whether they are few, and small. -/
import Derived.Test.YtjnkcgegmffncaaLbC
namespace Go.Proofs.Ytjnkcgegmffncaa
open Go.RowKit
/-- Few labels, and short. -/
def smallL (L : List Lb) : Prop := L.length ≤ 30 ∧ ∀ x ∈ L, x.1.size ≤ 300 ∧ x.2.size ≤ 300
/-- A truth is told, of which something follows. -/
def Tells (p : Prop) (w : World) (e : Ending) (w' : World) : Prop := ∃ b, e = .returned (.bool b) ∧ (b = true → p) ∧ Below w.heap.size w w'
set_option maxHeartbeats 2000000 in
set_option maxRecDepth 100000 in
theorem lightL_any {A : Option Addr} {c n : Nat} {L : List Lb} {w : World} (hn : L.length = n) (h : RdLb w A L) :
    Calls Try.prog 50 #[.slice A n c] w (Tells (smallL L) w) := by
  have HN := Lib.hid hn
  have H := Lib.hid h
  clear hn h
  go_enter Try.func50, Try.ntmps50
  go_wp2_with fail
  go_loopw [3] (fun v wr => ∃ k : Nat, v = .int .i64 (k : Int) ∧ k ≤ n ∧ k ≤ 31 ∧ Hid (∀ x ∈ L.take k, x.1.size ≤ 300 ∧ x.2.size ≤ 300) ∧ Hid (w = wr)) (fun v _ => n - (intOf v).toNat)
  case atStart => exact ⟨0, rfl, Nat.zero_le _, by omega, Lib.hid (by simp), Lib.hid rfl⟩
  case round =>
    obtain ⟨k, rfl, hk, hk3, HT, HW⟩ := hrel
    obtain rfl := HW.out
    by_cases h0 : k < n
    · have hkI : (k : Int) < (n : Int) := by omega
      by_cases h3 : k ≤ 30
      · have h3I : (k : Int) ≤ 30 := by omega
        have hkL : k < L.length := by rw [HN.out]; exact h0
        obtain ⟨ad, rfl, hlt, c0, c1⟩ := H.out.at_ hkL
        obtain ⟨⟨x, y⟩, hx⟩ : ∃ x, L[k] = x := ⟨_, rfl⟩
        rw [hx] at c0 c1
        simp only at c0 c1
        have HL : Hid (L.take (k + 1) = L.take k ++ [(x, y)]) := Lib.hid (by rw [← hx]; exact (List.take_append_getElem hkL).symm)
        clear hkL hx
        by_cases h4 : x.size ≤ 300
        · have h4I : ¬ (300 : Int) < (x.size : Int) := by omega
          by_cases h5 : y.size ≤ 300
          · have h5I : ¬ (300 : Int) < (y.size : Int) := by omega
            have hw : IntKind.i64.wrap ((k : Int) + 1) = ((k + 1 : Nat) : Int) := by rw [IntKind.wrap_i64]; omega
            have H45 := Lib.hid (And.intro h4 h5)
            go_wp2_with fail
            go_roundw
            case rel => exact ⟨k + 1, by go_num, by omega, by omega, Lib.hid (fun q hq => by
              rw [HL.out] at hq
              rcases List.mem_append.1 hq with hq | hq
              · exact HT.out q hq
              · obtain rfl := List.mem_singleton.1 hq; exact H45.out), Lib.hid (by first | rfl | trivial)⟩
            case measure => simp [intOf]; omega
          · have h5I : (300 : Int) < (y.size : Int) := by omega
            go_wp2_with fail
            go_ret
            exact ⟨false, rfl, fun h => (by cases h), Below.refl _ _⟩
        · have h4I : (300 : Int) < (x.size : Int) := by omega
          go_wp2_with fail
          go_ret
          exact ⟨false, rfl, fun h => (by cases h), Below.refl _ _⟩
      · have h3I : ¬ (k : Int) ≤ 30 := by omega
        have h4I : decide ((n : Int) ≤ 30) = false := by simp; omega
        go_wp2_with fail
        go_ret
        exact ⟨false, rfl, fun h => (by cases h), Below.refl _ _⟩
    · have hkI : ¬ (k : Int) < (n : Int) := by omega
      obtain rfl : k = n := by omega
      have HT2 : Hid (∀ x ∈ L, x.1.size ≤ 300 ∧ x.2.size ≤ 300) := Lib.hid (by have := HT.out; rwa [List.take_of_length_le (by rw [HN.out]; exact Nat.le_refl _)] at this)
      by_cases h3 : k ≤ 30
      · have h3I : (k : Int) ≤ 30 := by omega
        have h4I : decide ((k : Int) ≤ 30) = true := by simp; omega
        have HK := Lib.hid h3
        go_wp2_with fail
        go_ret
        exact ⟨true, rfl, fun _ => ⟨by rw [HN.out]; exact HK.out, HT2.out⟩, Below.refl _ _⟩
      · have h4I : decide ((k : Int) ≤ 30) = false := by simp; omega
        go_wp2_with fail
        go_ret
        exact ⟨false, rfl, fun h => (by cases h), Below.refl _ _⟩
/-! ### Rows of structs -/
def rowF {α : Type} (f : α → List Value) : List α → List Value
  | [] => []
  | x :: r => f x ++ rowF f r
section
variable {α : Type} {f : α → List Value} {s : Nat}
theorem rowF_len (hs : ∀ x, (f x).length = s) : ∀ L : List α, (rowF f L).length = L.length * s
  | [] => by simp [rowF]
  | x :: r => by simp only [rowF, List.length_append, hs, rowF_len hs r, List.length_cons, Nat.add_mul, Nat.one_mul]; omega
theorem rowF_get (hs : ∀ x, (f x).length = s) : ∀ (L : List α) (k : Nat) (h : k < L.length) (i : Nat), i < s → (rowF f L)[k * s + i]? = (f L[k])[i]?
  | x :: r, 0, _, i, hi => by
    simp only [rowF, Nat.zero_mul, Nat.zero_add, List.getElem_cons_zero]
    rw [List.getElem?_append_left (by rw [hs]; exact hi)]
  | x :: r, k + 1, h, i, hi => by
    have := rowF_get hs r k (by simpa using h) i hi
    simp only [rowF, List.getElem_cons_succ]
    rw [List.getElem?_append_right (by rw [hs, Nat.add_mul]; omega), hs, ← this]
    congr 1
    rw [Nat.add_mul]; omega
theorem rowF_append (L M : List α) : rowF f (L ++ M) = rowF f L ++ rowF f M := by
  induction L with
  | nil => rfl
  | cons x r ih => simp only [List.cons_append, rowF, ih, List.append_assoc]
theorem rowF_one (h : ∀ x, ∀ u ∈ f x, u.oneCell' = true) : ∀ L : List α, ∀ u ∈ rowF f L, u.oneCell' = true
  | [], _, hu => by cases hu
  | x :: r, u, hu => by
    rcases List.mem_append.1 hu with hu | hu
    · exact h x u hu
    · exact rowF_one h r u hu
theorem rowF_cut (hs : ∀ x, (f x).length = s) : ∀ (L : List α) (k : Nat), rowF f (L.take k) = (rowF f L).take (k * s)
  | [], k => by simp [rowF]
  | x :: r, 0 => by simp [rowF]
  | x :: r, k + 1 => by
    have e : (k + 1) * s = (f x).length + k * s := by rw [hs, Nat.add_mul]; omega
    simp only [List.take_succ_cons, rowF, rowF_cut hs r k]
    rw [e, List.take_length_add_append]
end
/-- A row's first cell, and another one, in the walk's spelling. -/
theorem row_at {α : Type} {f : α → List Value} {s : Nat} (hs : ∀ x, (f x).length = s) {w : World} {B : Nat} {ad : Addr} {n : Nat} {L : List α} (h : Reads w B s (some ad) n (rowF f L)) {k : Nat} (hk : k < L.length) (hn : L.length = n) (hs0 : 0 < s) {u : Value} (hu : (f L[k])[0]? = some u) :
    w.cell? (ad.add (k * s)) = some u := h.cell0 rfl (by omega) (by rw [← hu, ← rowF_get hs L k hk 0 hs0]; rfl)
theorem row_atI {α : Type} {f : α → List Value} {s : Nat} (hs : ∀ x, (f x).length = s) {w : World} {B : Nat} {ad : Addr} {n : Nat} {L : List α} (h : Reads w B s (some ad) n (rowF f L)) {k : Nat} (hk : k < L.length) (hn : L.length = n) (i : Nat) (hi : i < s) (h0 : 0 < i) {u : Value} (hu : (f L[k])[i]? = some u) :
    w.cell? { block := (ad.add (k * s)).block, off := (ad.add (k * s)).off + i } = some u := h.cellI rfl (by omega) (by rw [← hu, ← rowF_get hs L k hk i hi]) h0
/-- A sample, as it lies: its metric, its labels; time; number. -/
abbrev Sm := ByteArray × Ls × Int × Int
abbrev smc (x : Sm) : List Value := [.string x.1, lsV x.2.1, .int .i64 x.2.2.1, .int .i64 x.2.2.2]
def RdSm (w : World) (A : Option Addr) (n : Nat) (L : List Sm) : Prop := L.length = n ∧ Reads w w.heap.size 4 A n (rowF smc L) ∧ ∀ x ∈ L, RdLs w x.2.1
theorem RdSm.below {w w' : World} {A : Option Addr} {n : Nat} {L : List Sm} (h : RdSm w A n L) (hb : Below w.heap.size w w') : RdSm w' A n L :=
  ⟨h.1, Reads.more (Reads.below h.2.1 hb) hb.size, fun x hx => (h.2.2 x hx).below hb⟩
theorem RdSm.at_ {w : World} {ad : Addr} {n : Nat} {L : List Sm} (h : RdSm w (some ad) n L) {k : Nat} (hk : k < L.length) : w.cell? (ad.add (k * 4)) = some (.string L[k].1) ∧
    w.cell? { block := (ad.add (k * 4)).block, off := (ad.add (k * 4)).off + 1 } = some (lsV L[k].2.1) ∧ w.cell? { block := (ad.add (k * 4)).block, off := (ad.add (k * 4)).off + 2 } = some (.int .i64 L[k].2.2.1) ∧ w.cell? { block := (ad.add (k * 4)).block, off := (ad.add (k * 4)).off + 3 } = some (.int .i64 L[k].2.2.2) :=
  ⟨row_at (f := smc) (s := 4) (fun _ => rfl) h.2.1 hk h.1 (by decide) rfl, row_atI (f := smc) (s := 4) (fun _ => rfl) h.2.1 hk h.1 1 (by decide) (by decide) rfl, row_atI (f := smc) (s := 4) (fun _ => rfl) h.2.1 hk h.1 2 (by decide) (by decide) rfl, row_atI (f := smc) (s := 4) (fun _ => rfl) h.2.1 hk h.1 3 (by decide) (by decide) rfl⟩
theorem RdSm.some_ {w : World} {A : Option Addr} {n : Nat} {L : List Sm} (h : RdSm w A n L) (h0 : 0 < n) : ∃ ad, A = some ad ∧ ad.block < w.heap.size := by
  obtain ⟨ad, e, hb, _⟩ := h.2.1.2 h0; exact ⟨ad, e, hb⟩
/-- A small sample. -/
def smallS (m : ByteArray) (L : List Lb) : Prop := m.size ≤ 300 ∧ smallL L
set_option maxHeartbeats 4000000 in
set_option maxRecDepth 100000 in
theorem lightS_any {A : Option Addr} {c n : Nat} {L : List Sm} {w : World} (most : Nat) (h : RdSm w A n L) (hm : most ≤ 1000000000000) {P : Prop} (hP : L.length ≤ most → (∀ x ∈ L, smallS x.1 x.2.1.2.2) → P) :
    Calls Try.prog 35 #[.slice A n c, .int .i64 (most : Int)] w (Tells P w) := by
  have H := Lib.hid h
  have HP := Lib.hid hP
  clear h hP
  go_enter Try.func35, Try.ntmps35
  go_wp2_with fail
  go_loopw [5] (fun v wr => ∃ k : Nat, v = .int .i64 (k : Int) ∧ k ≤ n ∧ k ≤ most + 1 ∧ Hid (∀ x ∈ L.take k, smallS x.1 x.2.1.2.2) ∧ Hid (Below w.heap.size w wr)) (fun v _ => n - (intOf v).toNat)
  case atStart => exact ⟨0, rfl, Nat.zero_le _, by omega, Lib.hid (by simp), Lib.hid (Below.refl _ _)⟩
  case round =>
    obtain ⟨k, rfl, hk, hk3, HT, HB⟩ := hrel
    by_cases h0 : k < n
    · have hkI : (k : Int) < (n : Int) := by omega
      by_cases h3 : k ≤ most
      · have h3I : (k : Int) ≤ (most : Int) := by omega
        obtain ⟨ad, rfl, hlt⟩ := H.out.some_ (by omega)
        have hkL : k < L.length := by rw [H.out.1]; exact h0
        have hin := List.getElem_mem hkL
        have HRl := Lib.hid (((H.out.below HB.out).2.2 _ hin))
        obtain ⟨c0, c1, c2, c3⟩ := (H.out.below HB.out).at_ (k := k) hkL
        try clear c2 c3
        obtain ⟨x, hx⟩ : ∃ x, L[k] = x := ⟨_, rfl⟩
        have HS : Hid (L.take (k + 1) = L.take k ++ [x]) := Lib.hid (by rw [← hx]; exact (List.take_append_getElem hkL).symm)
        simp only [hx] at HRl c0 c1
        clear hkL hx hin
        by_cases h6 : (300 : Int) < (x.1.size : Int)
        · go_wp2_with fail
          go_ret
          exact ⟨false, rfl, fun h => (by cases h), HB.out⟩
        have H6 : Hid (x.1.size ≤ 300) := Lib.hid (by omega)
        go_wp2_with fail
        refine (lightL_any rfl HRl.out).mono ?_
        rintro e w1 ⟨b, rfl, hb, hb1⟩
        have HS1 := Lib.hid hb
        have HB1 := Lib.hid (HB.out.trans (hb1.mono HB.out.size))
        clear hb hb1
        cases b
        · go_wp2_with fail
          go_ret
          exact ⟨false, rfl, fun h => (by cases h), HB1.out⟩
        · have hw : IntKind.i64.wrap ((k : Int) + 1) = ((k + 1 : Nat) : Int) := by rw [IntKind.wrap_i64]; omega
          go_wp2_with fail
          go_roundw
          case rel => exact ⟨k + 1, by go_num, by omega, by omega, Lib.hid (fun q hq => by
            rw [HS.out] at hq
            rcases List.mem_append.1 hq with hq | hq
            · exact HT.out q hq
            · obtain rfl := List.mem_singleton.1 hq; exact ⟨H6.out, HS1.out (by first | rfl | trivial)⟩), HB1⟩
          case measure => simp [intOf]; omega
      · have h3I : ¬ (k : Int) ≤ (most : Int) := by omega
        have h4I : decide ((n : Int) ≤ (most : Int)) = false := by simp; omega
        have h5I : decide (n ≤ most) = false := by simp; omega
        go_wp2_with fail
        go_ret
        exact ⟨false, rfl, fun h => (by cases h), HB.out⟩
    · have hkI : ¬ (k : Int) < (n : Int) := by omega
      obtain rfl : k = n := by omega
      have HT2 : Hid (∀ x ∈ L, smallS x.1 x.2.1.2.2) := Lib.hid (by have := HT.out; rwa [List.take_of_length_le (by rw [H.out.1]; exact Nat.le_refl _)] at this)
      by_cases h3 : k ≤ most
      · have h3I : (k : Int) ≤ (most : Int) := by omega
        have h4I : decide ((k : Int) ≤ (most : Int)) = true := by simp; omega
        have h5I : decide (k ≤ most) = true := by simp; omega
        have HK := Lib.hid h3
        go_wp2_with fail
        go_ret
        exact ⟨true, rfl, fun _ => HP.out (by rw [H.out.1]; exact HK.out) HT2.out, HB.out⟩
      · have h4I : decide ((k : Int) ≤ (most : Int)) = false := by simp; omega
        have h5I : decide (k ≤ most) = false := by simp; omega
        go_wp2_with fail
        go_ret
        exact ⟨false, rfl, fun h => (by cases h), HB.out⟩
/-- A change, as it lies: its labels; number; over; gone. -/
abbrev Cg := Ls × Int × Bool × Bool
abbrev chc (x : Cg) : List Value := [lsV x.1, .int .i64 x.2.1, .bool x.2.2.1, .bool x.2.2.2]
def RdCg (w : World) (A : Option Addr) (n : Nat) (L : List Cg) : Prop := L.length = n ∧ Reads w w.heap.size 4 A n (rowF chc L) ∧ ∀ x ∈ L, RdLs w x.1
theorem RdCg.below {w w' : World} {A : Option Addr} {n : Nat} {L : List Cg} (h : RdCg w A n L) (hb : Below w.heap.size w w') : RdCg w' A n L :=
  ⟨h.1, Reads.more (Reads.below h.2.1 hb) hb.size, fun x hx => (h.2.2 x hx).below hb⟩
theorem RdCg.at_ {w : World} {ad : Addr} {n : Nat} {L : List Cg} (h : RdCg w (some ad) n L) {k : Nat} (hk : k < L.length) : w.cell? (ad.add (k * 4)) = some (lsV L[k].1) ∧
    w.cell? { block := (ad.add (k * 4)).block, off := (ad.add (k * 4)).off + 1 } = some (.int .i64 L[k].2.1) ∧ w.cell? { block := (ad.add (k * 4)).block, off := (ad.add (k * 4)).off + 2 } = some (.bool L[k].2.2.1) ∧ w.cell? { block := (ad.add (k * 4)).block, off := (ad.add (k * 4)).off + 3 } = some (.bool L[k].2.2.2) :=
  ⟨row_at (f := chc) (s := 4) (fun _ => rfl) h.2.1 hk h.1 (by decide) rfl, row_atI (f := chc) (s := 4) (fun _ => rfl) h.2.1 hk h.1 1 (by decide) (by decide) rfl, row_atI (f := chc) (s := 4) (fun _ => rfl) h.2.1 hk h.1 2 (by decide) (by decide) rfl, row_atI (f := chc) (s := 4) (fun _ => rfl) h.2.1 hk h.1 3 (by decide) (by decide) rfl⟩
theorem RdCg.some_ {w : World} {A : Option Addr} {n : Nat} {L : List Cg} (h : RdCg w A n L) (h0 : 0 < n) : ∃ ad, A = some ad ∧ ad.block < w.heap.size := by
  obtain ⟨ad, e, hb, _⟩ := h.2.1.2 h0; exact ⟨ad, e, hb⟩
set_option maxHeartbeats 4000000 in
set_option maxRecDepth 100000 in
theorem lightC_any {A : Option Addr} {c n : Nat} {L : List Cg} {w : World} (most : Nat) (h : RdCg w A n L) (hm : most ≤ 1000000000000) {P : Prop} (hP : L.length ≤ most → (∀ x ∈ L, smallL x.1.2.2) → P) :
    Calls Try.prog 36 #[.slice A n c, .int .i64 (most : Int)] w (Tells P w) := by
  have H := Lib.hid h
  have HP := Lib.hid hP
  clear h hP
  go_enter Try.func36, Try.ntmps36
  go_wp2_with fail
  go_loopw [5] (fun v wr => ∃ k : Nat, v = .int .i64 (k : Int) ∧ k ≤ n ∧ k ≤ most + 1 ∧ Hid (∀ x ∈ L.take k, smallL x.1.2.2) ∧ Hid (Below w.heap.size w wr)) (fun v _ => n - (intOf v).toNat)
  case atStart => exact ⟨0, rfl, Nat.zero_le _, by omega, Lib.hid (by simp), Lib.hid (Below.refl _ _)⟩
  case round =>
    obtain ⟨k, rfl, hk, hk3, HT, HB⟩ := hrel
    by_cases h0 : k < n
    · have hkI : (k : Int) < (n : Int) := by omega
      by_cases h3 : k ≤ most
      · have h3I : (k : Int) ≤ (most : Int) := by omega
        obtain ⟨ad, rfl, hlt⟩ := H.out.some_ (by omega)
        have hkL : k < L.length := by rw [H.out.1]; exact h0
        have hin := List.getElem_mem hkL
        have HRl := Lib.hid (((H.out.below HB.out).2.2 _ hin))
        obtain ⟨c0, c1, c2, c3⟩ := (H.out.below HB.out).at_ (k := k) hkL
        try clear c2 c3
        obtain ⟨x, hx⟩ : ∃ x, L[k] = x := ⟨_, rfl⟩
        have HS : Hid (L.take (k + 1) = L.take k ++ [x]) := Lib.hid (by rw [← hx]; exact (List.take_append_getElem hkL).symm)
        simp only [hx] at HRl c0 c1
        clear hkL hx hin
        go_wp2_with fail
        refine (lightL_any rfl HRl.out).mono ?_
        rintro e w1 ⟨b, rfl, hb, hb1⟩
        have HS1 := Lib.hid hb
        have HB1 := Lib.hid (HB.out.trans (hb1.mono HB.out.size))
        clear hb hb1
        cases b
        · go_wp2_with fail
          go_ret
          exact ⟨false, rfl, fun h => (by cases h), HB1.out⟩
        · have hw : IntKind.i64.wrap ((k : Int) + 1) = ((k + 1 : Nat) : Int) := by rw [IntKind.wrap_i64]; omega
          go_wp2_with fail
          go_roundw
          case rel => exact ⟨k + 1, by go_num, by omega, by omega, Lib.hid (fun q hq => by
            rw [HS.out] at hq
            rcases List.mem_append.1 hq with hq | hq
            · exact HT.out q hq
            · obtain rfl := List.mem_singleton.1 hq; exact HS1.out (by first | rfl | trivial)), HB1⟩
          case measure => simp [intOf]; omega
      · have h3I : ¬ (k : Int) ≤ (most : Int) := by omega
        have h4I : decide ((n : Int) ≤ (most : Int)) = false := by simp; omega
        have h5I : decide (n ≤ most) = false := by simp; omega
        go_wp2_with fail
        go_ret
        exact ⟨false, rfl, fun h => (by cases h), HB.out⟩
    · have hkI : ¬ (k : Int) < (n : Int) := by omega
      obtain rfl : k = n := by omega
      have HT2 : Hid (∀ x ∈ L, smallL x.1.2.2) := Lib.hid (by have := HT.out; rwa [List.take_of_length_le (by rw [H.out.1]; exact Nat.le_refl _)] at this)
      by_cases h3 : k ≤ most
      · have h3I : (k : Int) ≤ (most : Int) := by omega
        have h4I : decide ((k : Int) ≤ (most : Int)) = true := by simp; omega
        have h5I : decide (k ≤ most) = true := by simp; omega
        have HK := Lib.hid h3
        go_wp2_with fail
        go_ret
        exact ⟨true, rfl, fun _ => HP.out (by rw [H.out.1]; exact HK.out) HT2.out, HB.out⟩
      · have h4I : decide ((k : Int) ≤ (most : Int)) = false := by simp; omega
        have h5I : decide (k ≤ most) = false := by simp; omega
        go_wp2_with fail
        go_ret
        exact ⟨false, rfl, fun h => (by cases h), HB.out⟩
end Go.Proofs.Ytjnkcgegmffncaa
