/- A buffer in memory: Trim, whole; a buffer that nobody made; New. -/
import Derived.Test.YtfblmmnofhkkaaaBfV
namespace Go.Proofs.Ytfblmmnofhkkaaa
open Go.RowKit
section
variable {w w' : World} {F : Nat → Prop} {b n : Nat} {Z : List Blk} {v : Value} {fl : Int} {P : List Pt}
set_option maxRecDepth 100000 in
theorem bTrim_back (t : Int) (h1 : t < fl) (h : BufC w F b Z v fl n) : Calls Try.prog 13 #[bptr b, .int .i64 t] w fun e w' => e = .returned (.tuple #[.int .i64 0, .int .i64 2]) ∧ Below w.heap.size w w' := by
  have CR := Lib.hid (bright_any h)
  have d2 := cellAt (o := 2) (v := .int .i64 fl) h.buf rfl
  clear h
  go_enter Try.func13, Try.ntmps13
  go_wp2_with fail
  refine CR.out.mono ?_
  rintro e w1 ⟨rfl, rfl⟩
  go_wp2_with fail
  exact bodyPost_ret (v := .tuple #[.int .i64 0, .int .i64 2]) (by simp only [results, Try.results13]; go_simp) rfl ⟨rfl, Below.refl _ _⟩
/-- How Trim ends: how many went, its number; what it leaves. -/
def trimE (t : Int) (P : List Pt) (fl : Int) : Int × Int := if t < fl then (0, 2) else (((P.length - (aboveP t P).length : Nat) : Int), 0)
def trimP (t : Int) (P : List Pt) (fl : Int) : List Pt := if t < fl then P else aboveP t P
def trimF (t fl : Int) : Int := if t < fl then fl else t
/-- TRIM. -/
theorem bTrim_any (t : Int) (h : BufL w F b P fl) : Calls Try.prog 13 #[bptr b, .int .i64 t] w fun e w' => e = .returned (.tuple #[.int .i64 (trimE t P fl).1, .int .i64 (trimE t P fl).2]) ∧ BufGo w F b (trimP t P fl) (trimF t fl) w' := by
  unfold trimE trimP trimF
  by_cases h1 : t < fl
  · rw [if_pos h1, if_pos h1, if_pos h1]
    obtain ⟨Z, v, hc, _⟩ := id h
    exact (bTrim_back t h1 hc).mono fun e w' ⟨a, b⟩ => ⟨a, BufGo.below h b⟩
  · rw [if_neg h1, if_neg h1, if_neg h1]
    exact (bTrim_go t h h1).mono fun e w' ⟨a, b, c⟩ => ⟨a, BufGo.of b (fun _ h => .inl h) c⟩
end
/-! ### A buffer that nobody made -/
section
variable (w : World)
set_option maxRecDepth 100000 in
theorem bput_nil (t m : Int) : Calls Try.prog 12 #[.pointer none, .int .i64 t, .int .i64 m] w fun e w' => e = .returned (.int .i64 1) ∧ Below w.heap.size w w' := by
  have CR := Lib.hid (fun W => bright_nil W)
  go_enter Try.func12, Try.ntmps12
  go_wp2_with fail
  refine (CR.out _).mono ?_
  rintro e w1 ⟨rfl, rfl⟩
  go_wp2_with fail
  go_ret
  exact ⟨rfl, Below.refl _ _⟩
theorem blen_nil : Calls Try.prog 14 #[.pointer none] w fun e w' => e = .returned (.int .i64 0) ∧ Below w.heap.size w w' := by
  have CR := Lib.hid (fun W => bright_nil W)
  go_enter Try.func14, Try.ntmps14
  go_wp2_with fail
  refine (CR.out _).mono ?_
  rintro e w1 ⟨rfl, rfl⟩
  go_wp2_with fail
  go_ret
  exact ⟨rfl, Below.refl _ _⟩
theorem bfloor_nil : Calls Try.prog 16 #[.pointer none] w fun e w' => e = .returned (.int .i64 0) ∧ Below w.heap.size w w' := by
  have CR := Lib.hid (fun W => bright_nil W)
  go_enter Try.func16, Try.ntmps16
  go_wp2_with fail
  refine (CR.out _).mono ?_
  rintro e w1 ⟨rfl, rfl⟩
  go_wp2_with fail
  go_ret
  exact ⟨rfl, Below.refl _ _⟩
theorem bat_nil (t : Int) : Calls Try.prog 20 #[.pointer none, .int .i64 t] w fun e w' => e = .returned (.tuple #[.int .i64 0, .bool false]) ∧ Below w.heap.size w w' := by
  have CR := Lib.hid (fun W => bright_nil W)
  go_enter Try.func20, Try.ntmps20
  go_wp2_with fail
  refine (CR.out _).mono ?_
  rintro e w1 ⟨rfl, rfl⟩
  go_wp2_with fail
  exact bodyPost_ret (v := .tuple #[.int .i64 0, .bool false]) (by simp only [results, Try.results20]; go_simp) rfl ⟨rfl, Below.refl _ _⟩
theorem btrim_nil (t : Int) : Calls Try.prog 13 #[.pointer none, .int .i64 t] w fun e w' => e = .returned (.tuple #[.int .i64 0, .int .i64 1]) ∧ Below w.heap.size w w' := by
  have CR := Lib.hid (fun W => bright_nil W)
  go_enter Try.func13, Try.ntmps13
  go_wp2_with fail
  refine (CR.out _).mono ?_
  rintro e w1 ⟨rfl, rfl⟩
  go_wp2_with fail
  exact bodyPost_ret (v := .tuple #[.int .i64 0, .int .i64 1]) (by simp only [results, Try.results13]; go_simp) rfl ⟨rfl, Below.refl _ _⟩
theorem bends_nil : Calls Try.prog 15 #[.pointer none] w fun e w' => e = .returned (.tuple #[.int .i64 0, .int .i64 0]) ∧ Below w.heap.size w w' := by
  have CR := Lib.hid (fun W => bright_nil W)
  go_enter Try.func15, Try.ntmps15
  go_wp2_with fail
  refine (CR.out _).mono ?_
  rintro e w1 ⟨rfl, rfl⟩
  go_wp2_with fail
  exact bodyPost_ret (v := .tuple #[.int .i64 0, .int .i64 0]) (by simp only [results, Try.results15]; go_simp) rfl ⟨rfl, Below.refl _ _⟩
theorem blast_nil (t : Int) : Calls Try.prog 21 #[.pointer none, .int .i64 t] w fun e w' => e = .returned (.tuple #[bpv (0, 0), .bool false]) ∧ Below w.heap.size w w' := by
  have CR := Lib.hid (fun W => bright_nil W)
  have HA := Lib.hid (below_alloc (Below.refl w.heap.size w) (.cells #[.int .i64 0, .int .i64 0, .bool false] 45))
  have HR := Lib.hid (newB w (.cells #[.int .i64 0, .int .i64 0, .bool false] 45))
  have r0 := cellAt (o := 0) HR.out rfl
  have r1 := cellAt (o := 1) HR.out rfl
  have r2 := cellAt (o := 2) HR.out rfl
  have f0 := freeAt 0 HR.out
  have f1 := freeAt 1 HR.out
  have f2 := freeAt 2 HR.out
  go_enter Try.func21, Try.ntmps21
  go_wp2_with fail
  refine (CR.out _).mono ?_
  rintro e w1 ⟨rfl, rfl⟩
  go_wp2_with fail
  exact bodyPost_ret (v := .tuple #[bpv (0, 0), .bool false]) (by simp only [results, Try.results21]; go_simp) rfl ⟨rfl, HA.out⟩
/-- New. -/
theorem bnew_any : Calls Try.prog 11 #[] w fun e w' => e = .returned (bptr w.heap.size) ∧ BufL w' (fun k => k = w.heap.size) w.heap.size [] 0 ∧ Below w.heap.size w w' ∧ w'.heap.size = w.heap.size + 1 := by
  go_enter Try.func11, Try.ntmps11
  go_wp2_with fail
  go_ret
  refine ⟨rfl, ⟨[], .slice none 0 0, ⟨rfl, newB w _, RowAt.nil_, by simp, by simp⟩, ⟨by simp, List.Pairwise.nil⟩, rfl, by simp⟩, below_alloc (Below.refl _ _) _, alloc_size _ _⟩
end
end Go.Proofs.Ytfblmmnofhkkaaa
