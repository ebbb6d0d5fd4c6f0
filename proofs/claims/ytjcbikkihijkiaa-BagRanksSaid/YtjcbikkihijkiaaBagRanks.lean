/- BagRanks: for every input the law returns true, and its arguments read as they did. No condition. -/
import Derived.Test.YtjcbikkihijkiaaBRk
namespace Go.Proofs.Ytjcbikkihijkiaa
open Go.ChangeShapes Go.WideShapes Go.ChangeAt Go.RowKit Go.Joins
theorem branks_any (A C : Option Addr) (l m : List Vl) (c d : Nat) (n : Int) (hnI : VIn n) (w : World) (hA : RVal w A l) (hC : RVal w C m) (hl64 : ∀ e ∈ l, VIn e.1) (hm64 : ∀ e ∈ m, VIn e.1) :
    Calls Try.prog 3 #[.slice A l.length c, .slice C m.length d, .int .i64 n] w fun e w' => e = .returned (.bool true) ∧ Below w.heap.size w w' := by
  by_cases h : 400 < l.length ∨ 400 < m.length ∨ n = 9223372036854775807
  · exact branks_out A C _ _ c d n h w
  · exact branks_core A C l m c d n (by omega) (by omega) (fun e => h (.inr (.inr e))) hnI w hA hC hl64 hm64
set_option maxRecDepth 100000 in
theorem bagRanks_lifted (os : Os) (started : os.Started) (H : Type) (enc : TypeId × Value → H) :
    ReturnsInHanded {} Try.checked os 3 .any (Rows.bagRanksSpec.pre6 enc Try.prog Try.f3 Rows.bagRanksRow.domain false) (Rows.bagRanksSpec.post enc Try.prog Try.f3 false true false false) := by
  refine returnsInHanded_of_change (C := Try.checked) ownL started (by kernel_rfl) Try.func3
    (ChangeSpec.witness6 (enc := enc) (C := Try.checked) false ⟨#[], #[.slice none 0 0, .slice none 0 0, .int .i64 0], []⟩ 8 (by kernel_rfl) (by kernel_rfl) (by kernel_rfl) (by kernel_rfl)) ?_
  intro W base args ds gs before hval0 hW hcnd _
  have hval : ∀ (j : Nat) t v, Try.f3.params[j]? = some t → args[j]? = some v → Value.okWide Try.prog W .any base t v := hval0
  have hW' := hW
  obtain ⟨p, q, hA0, hV, rfl, hfz, hnd⟩ := hW
  have hA : DataW.TrodAll enc Try.prog W 0 (fun _ => true) true Try.f3.params.toList args.toList ds p := hA0
  rw [Try.params3] at hA hval
  obtain ⟨v0, v1, v2, d0, d1, d2, p0, p1, p2, rfl, rfl, rfl, h0, h1, h2⟩ := trodAll_three hA
  obtain ⟨rfl, rfl⟩ := trodVars_none hV
  obtain ⟨A, l, c, rfl, _, hl, hl64⟩ := openVs (hval 0 22 v0 rfl rfl) h0
  obtain ⟨C, m, d, rfl, _, hm, hm64⟩ := openVs (hval 1 22 v1 rfl rfl) h1
  obtain ⟨n, rfl, rfl, rfl, wn⟩ := open_int Try.underlying2 (hval 2 2 v2 rfl rfl) h2
  clear hA0 hval0
  refine (branks_any A C l m c d n (vWf wn) W hl hm hl64 hm64).mono fun e W' ⟨he, hb⟩ => ?_
  subst he
  exact ⟨_, rfl, law_post laidOut (by kernel_rfl) rfl rfl rfl hW' (fun _ _ _ => trodAll_mk1 (shut_bool Try.underlying4 _)) hb (ok_one (by kernel_rfl) rfl (okWide_bool_mk Try.underlying4 _))⟩
theorem bagRanks_holds : Rows.BagRanksSaid :=
  OpenClaim.holds_of_wide 3 Try.f3 rfl rfl rfl rfl rfl rfl rfl ⟨rfl, rfl, rfl, rfl, rfl⟩ rfl rfl rfl rfl rfl (by kernel_rfl) Try.func3 (by kernel_rfl)
    (of_decide_eq_true (by kernel_rfl)) (by unfold Func.isWrapper; first | (rw [if_pos (by decide +kernel)]; kernel_rfl) | (rw [if_neg (by decide +kernel)]; exact ⟨rfl, rfl⟩))
    (fun os started H enc _ => bagRanks_lifted os started H enc)
#print axioms bagRanks_holds
end Go.Proofs.Ytjcbikkihijkiaa
