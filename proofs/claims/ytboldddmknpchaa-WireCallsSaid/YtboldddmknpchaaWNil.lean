/- A reader that nobody made: contracts of its methods. -/
import Derived.Test.YtboldddmknpchaaWir
import Derived.WalkKit
import Derived.WalkSpells
import Derived.WalkLawsBesides
import Derived.Lib.Hide
namespace Go.Proofs.Ytboldddmknpchaa
open Go.RowKit
theorem err_nil (w : World) : Calls Try.prog 21 #[.pointer none] w fun e w' => e = .returned (.int .i64 1) ∧ Below w.heap.size w w' := by
  go_enter Try.func21, Try.ntmps21
  go_wp2
  go_ret
  exact ⟨rfl, Below.refl _ _⟩
theorem end_nil (w : World) : Calls Try.prog 22 #[.pointer none] w fun e w' => e = .returned (.int .i64 1) ∧ Below w.heap.size w w' := by
  go_enter Try.func22, Try.ntmps22
  go_wp2_with fail
  refine (err_nil _).mono ?_; rintro e w1 ⟨rfl, hb⟩
  have HB := Lib.hid hb
  clear hb
  go_wp2_with fail
  go_ret
  exact ⟨rfl, HB.out⟩
theorem left_nil (w : World) : Calls Try.prog 23 #[.pointer none] w fun e w' => e = .returned (.int .i64 0) ∧ Below w.heap.size w w' := by
  go_enter Try.func23, Try.ntmps23
  go_wp2
  go_ret
  exact ⟨rfl, Below.refl _ _⟩
theorem try_nil (F : Value) (w : World) : Calls Try.prog 37 #[.pointer none, F] w fun e w' => e = .returned (.bool false) ∧ Below w.heap.size w w' := by
  go_enter Try.func37, Try.ntmps37
  go_wp2
  go_ret
  exact ⟨rfl, Below.refl _ _⟩
theorem numr_nil (w : World) : Calls Try.prog 24 #[.pointer none] w fun e w' => e = .returned (.int .u64 0) ∧ Below w.heap.size w w' := by
  go_enter Try.func24, Try.ntmps24
  go_wp2_with fail
  refine (try_nil _ _).mono ?_; rintro e w1 ⟨rfl, hb⟩
  have k0 := cellAt (o := 0) (keepB (newB w (.cells #[.int .u64 0] 23)) hb) rfl
  have k1 := freeAt 0 (keepB (newB w (.cells #[.int .u64 0] 23)) hb)
  have HB := Lib.hid ((below_alloc (Below.refl w.heap.size w) (.cells #[.int .u64 0] 23)).trans (hb.mono (by simp)))
  clear hb
  go_wp2_with fail
  refine bodyPost_ret (v := .int .u64 0) (by simp only [results, Try.results24]; go_simp) rfl ⟨rfl, ?_⟩
  exact HB.out.setCell (Nat.le_refl _) _
theorem textr_nil (w : World) : Calls Try.prog 26 #[.pointer none] w fun e w' => e = .returned (.string ⟨#[]⟩) ∧ Below w.heap.size w w' := by
  go_enter Try.func26, Try.ntmps26
  go_wp2_with fail
  refine (try_nil _ _).mono ?_; rintro e w1 ⟨rfl, hb⟩
  have k0 := cellAt (o := 0) (keepB (newB w (.cells #[.string ⟨#[]⟩] 9)) hb) rfl
  have k1 := freeAt 0 (keepB (newB w (.cells #[.string ⟨#[]⟩] 9)) hb)
  have HB := Lib.hid ((below_alloc (Below.refl w.heap.size w) (.cells #[.string ⟨#[]⟩] 9)).trans (hb.mono (by simp)))
  clear hb
  go_wp2_with fail
  refine bodyPost_ret (v := .string ⟨#[]⟩) (by simp only [results, Try.results26]; go_simp) rfl ⟨rfl, ?_⟩
  exact HB.out.setCell (Nat.le_refl _) _
theorem truthr_nil (w : World) : Calls Try.prog 27 #[.pointer none] w fun e w' => e = .returned (.bool false) ∧ Below w.heap.size w w' := by
  go_enter Try.func27, Try.ntmps27
  go_wp2_with fail
  refine (try_nil _ _).mono ?_; rintro e w1 ⟨rfl, hb⟩
  have k0 := cellAt (o := 0) (keepB (newB w (.cells #[.bool false] 4)) hb) rfl
  have k1 := freeAt 0 (keepB (newB w (.cells #[.bool false] 4)) hb)
  have HB := Lib.hid ((below_alloc (Below.refl w.heap.size w) (.cells #[.bool false] 4)).trans (hb.mono (by simp)))
  clear hb
  go_wp2_with fail
  refine bodyPost_ret (v := .bool false) (by simp only [results, Try.results27]; go_simp) rfl ⟨rfl, ?_⟩
  exact HB.out.setCell (Nat.le_refl _) _
theorem countr_nil (m : Int) (w : World) : Calls Try.prog 28 #[.pointer none, .int .i64 m] w fun e w' => e = .returned (.int .i64 0) ∧ Below w.heap.size w w' := by
  go_enter Try.func28, Try.ntmps28
  go_wp2_with fail
  refine (try_nil _ _).mono ?_; rintro e w1 ⟨rfl, hb⟩
  have k0 : w1.cell? ⟨w.heap.size + 1, 0, none⟩ = some (.int .i64 0) := by rw [← alloc_size w (.cells #[.int .i64 m] 3)]; exact cellAt (o := 0) (keepB (newB _ (.cells #[.int .i64 0] 3)) hb) rfl
  have k1 : w1.frozen? ⟨w.heap.size + 1, 0, none⟩ = false := by rw [← alloc_size w (.cells #[.int .i64 m] 3)]; exact freeAt 0 (keepB (newB _ (.cells #[.int .i64 0] 3)) hb)
  have HB := Lib.hid ((below_alloc (below_alloc (Below.refl w.heap.size w) (.cells #[.int .i64 m] 3)) (.cells #[.int .i64 0] 3)).trans (hb.mono (by simp; omega)))
  clear hb
  go_wp2_with fail
  refine bodyPost_ret (v := .int .i64 0) (by simp only [results, Try.results28]; go_simp) rfl ⟨rfl, ?_⟩
  exact HB.out.setCell (by simp) _
theorem signedr_nil (w : World) : Calls Try.prog 25 #[.pointer none] w fun e w' => e = .returned (.int .i64 0) ∧ Below w.heap.size w w' := by
  have b1 : bits BinOp.and IntKind.u64 0 1 = 0 := by decide
  have b2 : bits BinOp.xor IntKind.i64 0 0 = 0 := by decide
  go_enter Try.func25, Try.ntmps25
  go_wp2_with fail
  refine (numr_nil _).mono ?_; rintro e w1 ⟨rfl, hb⟩
  have HB := Lib.hid hb
  clear hb
  go_wp2_with fail
  go_ret
  exact ⟨rfl, HB.out⟩
end Go.Proofs.Ytboldddmknpchaa
