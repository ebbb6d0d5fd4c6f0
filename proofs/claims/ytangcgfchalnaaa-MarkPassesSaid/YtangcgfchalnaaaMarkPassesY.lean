/- MarkPasses: for every input the law returns true, and its arguments read as they did. No condition. -/
import Derived.Test.YtangcgfchalnaaaWac
import Derived.Test.YtangcgfchalnaaaYaz
/- MarkPasses: for every input the law returns true, and its arguments read as they did. No condition. -/
namespace Go.Proofs.Ytangcgfchalnaaa
open Go.ChangeShapes Go.WideShapes Go.ChangeAt Go.RowKit Go.Joins Go.Deep
abbrev ini (x : Int) : List Value := [.int .i64 x]
theorem intV_row : ∀ L : List Int, rowF ini L = intV L
  | [] => rfl
  | x :: r => by simp only [rowF, intV_row r]; rfl
set_option maxRecDepth 100000 in
/-- A slice of whole numbers. -/
theorem open_nis {H : Type} {enc : TypeId × Value → H} {w : World} {base : Nat} {spare : Nat → Bool} {held : Bool} {r : Reach} {b0 : Nat} {v : Value} {d : DataW H} {p : List MemPlace} (hv : Value.okWide Try.prog w r b0 39 v) (h : DataW.Trod enc Try.prog w base spare held 39 v d p) :
    ∃ (A : Option Addr) (L : List Int) (cap : Nat), v = .slice A L.length cap ∧ Reads w w.heap.size 1 A L.length (intV L) := by
  obtain ⟨A, n0, c0, rfl⟩ := okWide_slice Try.underlying39 hv
  obtain ⟨fuel, hf⟩ := h
  obtain ⟨A', cap, X, h1, h2, h3, h4⟩ := open_rows (f := ini) (R := fun _ => True) Try.underlying39 cellsInt (by decide) (fun _ => rfl) (fun n cs x h => by
    obtain ⟨m, h1, _, _⟩ := DataW.trod_int Try.underlying3 h
    exact ⟨m, h1, trivial⟩) hf
  rw [intV_row] at h2
  exact ⟨A', X, cap, by simpa [Value.cells] using h1, h2⟩
set_option maxRecDepth 100000 in
theorem markPasses_lifted (os : Os) (started : os.Started) (H : Type) (enc : TypeId × Value → H) :
    ReturnsInHanded {} Try.checked os 4 .any (Rows.markPassesSpec.pre6 enc Try.prog Try.f4 Rows.markPassesRow.domain false) (Rows.markPassesSpec.post enc Try.prog Try.f4 false true false false) := by
  refine returnsInHanded_of_change (C := Try.checked) ownL started (by kernel_rfl) Try.func4
    (ChangeSpec.witness6 (enc := enc) (C := Try.checked) false ⟨#[], #[.int .i64 0, .slice none 0 0, .slice none 0 0], []⟩ 8 (by kernel_rfl) (by kernel_rfl) (by kernel_rfl) (by kernel_rfl)) ?_
  intro W base args ds gs before hval0 hW hcnd _
  have hval : ∀ (j : Nat) t v, Try.f4.params[j]? = some t → args[j]? = some v → Value.okWide Try.prog W .any base t v := hval0
  have hW' := hW
  obtain ⟨p, q, hA0, hV, rfl, hfz, hnd⟩ := hW
  have hA : DataW.TrodAll enc Try.prog W 0 (fun _ => true) true Try.f4.params.toList args.toList ds p := hA0
  rw [Try.params4] at hA hval
  obtain ⟨v0, vs, d0, ds0, p0, q0, hargs, rfl, rfl, h0, hr0⟩ := trodAll_cons hA
  obtain ⟨v1, vs1, d1, ds1, p1, q1, rfl, rfl, rfl, h1, hr1⟩ := trodAll_cons hr0
  obtain ⟨v2, vs2, d2, ds2, p2, q2, rfl, rfl, rfl, h2, hr2⟩ := trodAll_cons hr1
  obtain ⟨rfl, rfl, rfl⟩ := trodAll_nil hr2
  obtain rfl : args = #[v0, v1, v2] := by cases args; simp_all
  obtain ⟨rfl, rfl⟩ := trodVars_none hV
  obtain ⟨la, rfl, rfl, rfl, _⟩ := open_int Try.underlying2 (hval 0 2 v0 rfl rfl) h0
  obtain ⟨A, X, cap, rfl, hX, _⟩ := open_sms (hval 1 22 v1 rfl rfl) h1
  obtain ⟨N, L, capN, rfl, hN⟩ := open_nis (hval 2 39 v2 rfl rfl) h2
  clear hA0 hval0
  refine (mpasses_any hX hN).mono fun e W' ⟨he, hb⟩ => ?_
  subst he
  exact ⟨_, rfl, law_post laidOut (by kernel_rfl) rfl rfl rfl hW' (fun _ _ _ => trodAll_mk1 (shut_bool Try.underlying4 _)) hb (ok_one (by kernel_rfl) rfl (okWide_bool_mk Try.underlying4 _))⟩
theorem markPasses_holds : Rows.MarkPassesSaid :=
  OpenClaim.holds_of_wide 4 Try.f4 rfl rfl rfl rfl rfl rfl rfl ⟨rfl, rfl, rfl, rfl, rfl⟩ rfl rfl rfl rfl rfl (by kernel_rfl) Try.func4 (by kernel_rfl)
    (of_decide_eq_true (by kernel_rfl)) (by unfold Func.isWrapper; first | (rw [if_pos (by decide +kernel)]; kernel_rfl) | (rw [if_neg (by decide +kernel)]; exact ⟨rfl, rfl⟩))
    (fun os started H enc _ => markPasses_lifted os started H enc)
#print axioms markPasses_holds
end Go.Proofs.Ytangcgfchalnaaa
