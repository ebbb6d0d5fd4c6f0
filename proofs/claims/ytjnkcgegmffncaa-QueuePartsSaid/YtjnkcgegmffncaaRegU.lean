/- A region's operation whose guard was passed over itself: passed over, too. No program. -/
import Derived.Test.YtjnkcgegmffncaaRegT
namespace Go.Proofs.Ytjnkcgegmffncaa
open Go.RowKit
def isUndef : Option Value → Bool
  | some (.tuple _) => true
  | _ => false
def wantU (l : List Oper) (ts : List Value) : Option (Nat × Bool) → Bool
  | none => false
  | some (j, _) => match dstOf (nthO l j) with
    | some d => isUndef (nthV ts d)
    | none => false
theorem wantU_spec {l : List Oper} {ts : List Value} {o : Oper} (h : wantU l ts o.guard = true) : Region.wanted o (yielded l.toArray ts.toArray) = false := by
  unfold Region.wanted
  cases hg : o.guard with
  | none => rw [hg] at h; simp [wantU] at h
  | some g =>
    obtain ⟨j, b⟩ := g
    rw [hg] at h
    have hy : yielded l.toArray ts.toArray j = none := by
      have h : (match dstOf (nthO l j) with | some d => isUndef (nthV ts d) | none => false) = true := h
      unfold yielded
      rw [nthO_eq]
      cases hn : nthO l j with
      | none => rw [hn] at h; simp [dstOf] at h
      | some o =>
        rw [hn] at h
        simp only [dstOf, Option.bind_some] at h ⊢
        cases hd : o.dst with
        | none => rw [hd] at h; simp at h
        | some d =>
          rw [hd] at h
          simp only [Option.bind_some] at h ⊢
          rw [nthV_eq]
          cases hv : nthV ts d with
          | none => rfl
          | some v =>
            rw [hv] at h
            cases v <;> first | rfl | (simp [isUndef] at h)
    simp only [hy]
    rfl
section
variable {P : Program} {B : Nat} {Z : TypeId → Obj} {ts : List Value} {df : List Deferred}
variable {r : List (Nat × Bool)} {C D : World → Prop} {U : List Nat} {i : Nat} {k : Bool} {o : Oper} {l : List Oper}
theorem wpP_skipu {E : (World → Prop) → Act → Prop} (ho : nthO l i = some o) (ha : allocOf o = none) (hw : wantU l ts o.guard = true)
    (h : ∀ K : Act → Prop, Shut (∀ a, WpS B P l Z E r C U a → K a) → K (Act.put { tmps := ts.toArray, defers := df } o.dst undef)) : WpS B P l Z E ((i, k) :: r) C U { tmps := ts.toArray, defers := df } := by
  have hw : Region.wanted o (yielded l.toArray ts.toArray) = false := wantU_spec hw
  have hk := (h (fun a => WpS B P l Z E r C U a) (fun _ h => h)).out
  rw [← nthO_eq] at ho
  refine ⟨?_⟩
  unfold wpP
  simp only [ho, ha, hw, Bool.false_eq_true, if_false]
  exact hk
theorem wt_skipu {Φ : Phi} {E : (World → Prop) → (World → Prop) → Act → Prop} (ho : nthO l i = some o) (hw : wantU l ts o.guard = true)
    (h : ∀ K : Act → Prop, Shut (∀ a, WpT Φ P l E r C D a → K a) → K (Act.put { tmps := ts.toArray, defers := df } o.dst undef)) : WpT Φ P l E ((i, false) :: r) C D { tmps := ts.toArray, defers := df } := by
  have hw : Region.wanted o (yielded l.toArray ts.toArray) = false := wantU_spec hw
  have hk := (h (fun a => WpT Φ P l E r C D a) (fun _ h => h)).out
  rw [← nthO_eq] at ho
  refine ⟨?_⟩
  unfold wpT
  simp only [ho]
  exact ⟨undef, .inr ⟨hw, rfl⟩, hk⟩
end
end Go.Proofs.Ytjnkcgegmffncaa
