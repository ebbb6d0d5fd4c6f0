/- A buffer of a law's own; the chapter's examples (lives). -/
import Derived.Test.YtfblmmnofhkkaaaBfR
namespace Go.Proofs.Ytfblmmnofhkkaaa
open Go.RowKit
/-- A buffer, as an object. -/
def BufO (b : Nat) (P : List Pt) (fl : Int) : Ob := fun w F => BufL w F b P fl
theorem BufO.obj (b : Nat) (P : List Pt) (fl : Int) : Obj1 (BufO b P fl) where
  keep := fun ⟨Z, v, h1, h2⟩ ho hn => ⟨Z, v, h1.keep ho hn, h2⟩
  old := fun h => h.old
  weak := fun ⟨Z, v, h1, h2⟩ hG => ⟨Z, v, h1.weak hG, h2⟩
section
variable {w : World} {F : Nat → Prop} {b : Nat} {P P' : List Pt} {fl : Int}
theorem put_go (t m : Int) {x : Int} (he : putE t P fl = x) (hp : putP t m P fl = P') (h : BufO b P fl w F) : Calls Try.prog 12 #[bptr b, .int .i64 t, .int .i64 m] w fun e w' => e = .returned (.int .i64 x) ∧ Goes (BufO b P' fl) F w w' := by
  subst he hp; exact bPut_any t m h
theorem trim_go (t : Int) {x y f : Int} (he : trimE t P fl = (x, y)) (hp : trimP t P fl = P') (hf : trimF t fl = f) (h : BufO b P fl w F) : Calls Try.prog 13 #[bptr b, .int .i64 t] w fun e w' => e = .returned (.tuple #[.int .i64 x, .int .i64 y]) ∧ Goes (BufO b P' f) F w w' := by
  subst hp hf
  have := bTrim_any t h
  rw [he] at this; exact this
theorem len_go {n : Nat} (hn : P.length = n) (h : BufO b P fl w F) : Calls Try.prog 14 #[bptr b] w fun e w' => e = .returned (.int .i64 (n : Int)) ∧ Below w.heap.size w w' := by
  obtain ⟨Z, v, h1, _⟩ := h
  subst hn; exact blen_any h1
theorem floor_go (h : BufO b P fl w F) : Calls Try.prog 16 #[bptr b] w fun e w' => e = .returned (.int .i64 fl) ∧ Below w.heap.size w w' := by
  obtain ⟨Z, v, h1, _⟩ := h
  exact bfloor_any h1
theorem ends_go {x y : Int} (he : endsP P = (x, y)) (h : BufO b P fl w F) : Calls Try.prog 15 #[bptr b] w fun e w' => e = .returned (.tuple #[.int .i64 x, .int .i64 y]) ∧ Below w.heap.size w w' := by
  have := bEnds_any h
  rw [he] at this; exact this
theorem range_go (t u : Int) {L : List Pt} {n : Nat} (hL : rangeP t u P = L) (hn : L.length = n) (h : BufO b P fl w F) : Calls Try.prog 19 #[bptr b, .int .i64 t, .int .i64 u] w fun e W' => ∃ A c, e = .returned (.slice A n c) ∧ W'.ownsRow w.heap.size 45 3 (.slice A n c) n (pcs L) ∧ Below w.heap.size w W' := by
  subst hL hn
  refine (brange_any t u h).mono ?_
  rintro e W' ⟨v, rfl, h1, h2⟩
  obtain ⟨a, c, rfl⟩ := or_form h1
  exact ⟨a, c, rfl, h1, h2⟩
theorem pts_go {L : List Pt} {n : Nat} (hL : aboveP 0 P = L) (hn : L.length = n) (h : BufO b P fl w F) : Calls Try.prog 18 #[bptr b] w fun e W' => ∃ A c, e = .returned (.slice A n c) ∧ W'.ownsRow w.heap.size 45 3 (.slice A n c) n (pcs L) ∧ Below w.heap.size w W' := by
  subst hL hn
  refine (bpts_any h).mono ?_
  rintro e W' ⟨v, rfl, h1, h2⟩
  obtain ⟨a, c, rfl⟩ := or_form h1
  exact ⟨a, c, rfl, h1, h2⟩
end
/-- New: the law's first object. -/
theorem new_lm {w0 w : World} (hb : Below w0.heap.size w0 w) : Calls Try.prog 11 #[] w fun e w' => e = .returned (bptr w.heap.size) ∧ LM w0 (BufO w.heap.size [] 0) w' := by
  refine (bnew_any w).mono ?_
  rintro e w' ⟨h1, h2, h3, h4⟩
  exact ⟨h1, LM.first hb h3 (F := fun k => k = w.heap.size) h2 (fun k e => by omega)⟩
set_option maxHeartbeats 4000000 in
set_option maxRecDepth 100000 in
theorem lives_any (w : World) : Calls Try.prog 9 #[] w fun e w' => e = .returned (.bool true) ∧ Below w.heap.size w w' := by
  have C0 := Lib.hid (new_lm (Below.refl w.heap.size w))
  obtain ⟨b, hb⟩ : ∃ b, w.heap.size = b := ⟨_, rfl⟩
  rw [hb] at C0
  go_enter Try.func9, Try.ntmps9
  go_wp2_with fail
  refine C0.out.mono ?_
  rintro e w1 ⟨rfl, h1⟩
  have HS := Lib.hid h1
  clear h1
  go_wp2_with fail
  refine (HS.out.turn (fun F h => put_go 5 1 (P' := [(5, 1)]) rfl rfl h)).mono ?_
  rintro e w1 ⟨rfl, h1⟩
  replace HS := Lib.hid h1
  clear h1
  go_wp2_with fail
  refine (HS.out.turn (fun F h => put_go 3 2 (P' := [(3, 2), (5, 1)]) rfl rfl h)).mono ?_
  rintro e w1 ⟨rfl, h1⟩
  replace HS := Lib.hid h1
  clear h1
  go_wp2_with fail
  refine (HS.out.turn (fun F h => put_go 9 3 (P' := [(3, 2), (5, 1), (9, 3)]) rfl rfl h)).mono ?_
  rintro e w1 ⟨rfl, h1⟩
  replace HS := Lib.hid h1
  clear h1
  go_wp2_with fail
  refine (HS.out.turn (fun F h => put_go 3 4 (x := 7) (P' := [(3, 2), (5, 1), (9, 3)]) rfl rfl h)).mono ?_
  rintro e w1 ⟨rfl, h1⟩
  replace HS := Lib.hid h1
  clear h1
  go_wp2_with fail
  refine (HS.out.read (fun F h => range_go 3 9 (L := [(5, 1), (9, 3)]) (n := 2) rfl rfl h)).mono ?_
  rintro e w1 ⟨A, c, rfl, h1, h2⟩
  obtain ⟨g, rfl⟩ := or_addr h1 (by omega)
  replace HS := Lib.hid (HS.out.rows (BufO.obj _ _ _) h2 h1)
  clear h1 h2
  go_wp2_with fail
  refine (HS.out.turn1 (RowO.obj _ _ _ _ _) (fun F h => trim_go 5 (P' := [(9, 3)]) rfl rfl rfl h)).mono ?_
  rintro e w2 ⟨rfl, h2⟩
  replace HS := Lib.hid h2
  have k0 := HS.out.row2 (j := 0) rfl
  have k1 := HS.out.row2 (j := 3) rfl
  clear h2
  go_wp2_with fail
  refine (HS.out.turn1 (RowO.obj _ _ _ _ _) (fun F h => put_go 4 1 (P' := [(9, 3)]) rfl rfl h)).mono ?_
  rintro e w2 ⟨rfl, h2⟩
  replace HS := Lib.hid h2
  clear h2 k0 k1
  go_wp2_with fail
  refine (HS.out.read1 (fun F h => len_go (n := 1) rfl h)).mono ?_
  rintro e w2 ⟨rfl, h2⟩
  have HE := Lib.hid (HS.out.below.trans (h2.mono HS.out.size))
  clear h2
  go_wp2_with fail
  go_ret
  subst hb
  exact ⟨rfl, HE.out⟩
end Go.Proofs.Ytfblmmnofhkkaaa
