/- The step from a walk to a row: arguments that are structs of numbers and truths, opened and shut; the row's last step where all that is known of the world is that it is as it was below. -/
import Derived.Test.YtfiinceogenlmaaRows
import Derived.Test.YtfiinceogenlmaaNum
import Derived.ProofKit
import Derived.OpenShut
import Derived.Lib.SmallJoins
import Derived.ChangeSame
namespace Go.Proofs.Ytfiinceogenlmaa
open Go.ChangeShapes Go.WideShapes Go.ChangeAt Go.RowKit Go.Joins

theorem own : ownKnob Try.prog.godebug = none := by kernel_rfl

section
variable {H : Type} {enc : TypeId × Value → H} {P : Program}
/-- The row's 'post', of a call that has left every block that stood there as it was. -/
theorem post_below {f : Func} {s : ChangeSpec} {apart fresh handsOn again : Bool} {W W' : World} {args : Array Value} {v : Value} {ds gs : List (DataW H)} {before pa pv : List MemPlace}
    (hW : DataW.Whole enc P f.params.toList s.vars apart W args.toList ds gs before)
    (hres : ∀ (b : Nat) (sp : Nat → Bool) (hd : Bool), DataW.TrodAll enc P W' b sp hd f.resultTypes.toList (v.resultList f.resultTypes.size) (s.fn H (ds ++ gs)).results [])
    (hargs : ∀ sp : Nat → Bool, (∀ p ∈ before, sp p.block = true) → DataW.TrodAll enc P W' 0 sp true f.params.toList args.toList (s.fn H (ds ++ gs)).args pa)
    (hvars : ∀ sp : Nat → Bool, (∀ p ∈ before, sp p.block = true) → DataW.TrodVars enc P W' sp s.vars (s.fn H (ds ++ gs)).vars pv)
    (hps : before = pa ++ pv) (hb : Below W.heap.size W W')
    (hok : ∀ (j : Nat) (t : TypeId) (r : Value), f.resultTypes[j]? = some t → (v.resultList f.resultTypes.size)[j]? = some r → Value.okWide P W' .any 0 t r) :
    s.post enc P f apart fresh handsOn again W args v W' := by
  have old : ∀ p ∈ before, p.block < W.heap.size := hW.lt
  have olds : ∀ p ∈ before, (fun b => decide (b < W.heap.size)) p.block = true := fun p hp => decide_eq_true (old p hp)
  refine ⟨ds, gs, before, [], pa, pv, hW, hres _ _ _, hargs _ olds, hvars _ olds, World.keptBut_mono (fun p hp => ⟨hp, ?_⟩) (hb.frame (· ∈ before)), fun _ => ?_⟩
  · exact Or.inr (List.mem_append.1 (hps ▸ hp))
  · obtain ⟨_, _, _, _, _, hz, hn⟩ := hW
    refine ⟨hok, _, _, ([] ++ pa) ++ pv, ⟨[] ++ pa, pv, trodAll_append (hargs _ (fun _ _ => rfl)) (hres _ _ _), hvars _ (fun _ _ => rfl), rfl, fun b off hp => ?_, fun ha => ?_⟩, fun p hp _ => ?_⟩
    · have hin : MemPlace.cell b off ∈ before := by rw [hps]; simpa using hp
      exact (hb.frozen (old _ hin)).trans (hz b off hin)
    · have := hn ha
      rw [hps] at this
      simpa using this
    · rw [hps]
      simpa using hp
end

section
variable {H : Type} {enc : TypeId × Value → H} {w w' : World} {base : Nat} {spare : Nat → Bool} {held : Bool}
theorem cellsVal : Try.prog.cellsOf 25 = 2 := by kernel_rfl
theorem open_val {r : Reach} {b0 : Nat} {v : Value} {d : DataW H} {p : List MemPlace} (hv : Value.okWide Try.prog w r b0 25 v) (h : DataW.Trod enc Try.prog w base spare held 25 v d p) :
    ∃ (n : Int) (o : Bool), v = .agg #[.int .i64 n, .bool o] ∧ d = .agg [.lit (.int .i64 n), .lit (.bool o)] ∧ p = [] ∧ (Lit.int .i64 n).wf = true := by
  obtain ⟨c0, c1, y0, y1, m, rfl, rfl, rfl, hy0, hy1⟩ := open_agg2 Try.underlying25 (by kernel_rfl) cellsVal hv h
  obtain ⟨a, e0, rfl, wa⟩ := DataW.trod_int Try.underlying2 hy0
  obtain ⟨b, e1, rfl⟩ := DataW.trod_bool Try.underlying4 hy1
  simp at e0 e1
  subst e0 e1
  exact ⟨a, b, rfl, rfl, rfl, wa⟩
theorem shut_val {n : Int} {o : Bool} (wn : (Lit.int .i64 n).wf = true) : DataW.Trod enc Try.prog w base spare held 25 (.agg #[.int .i64 n, .bool o]) (.agg [.lit (.int .i64 n), .lit (.bool o)]) [] :=
  shut_agg2 (y0 := (.lit (.int .i64 n), [])) (y1 := (.lit (.bool o), [])) Try.underlying25 (by kernel_rfl) cellsVal ⟨1, by simp [DataW.trod, Try.underlying2, wn]⟩ ⟨1, by simp [DataW.trod, Try.underlying4]⟩
theorem cellsGreat : Try.prog.cellsOf 31 = 3 := by kernel_rfl
theorem open_great {r : Reach} {b0 : Nat} {v : Value} {d : DataW H} {p : List MemPlace} (hv : Value.okWide Try.prog w r b0 31 v) (h : DataW.Trod enc Try.prog w base spare held 31 v d p) :
    ∃ (n l o : Int), v = .agg #[.int .i64 n, .int .u64 l, .int .u64 o] ∧ d = .agg [.lit (.int .i64 n), .lit (.int .u64 l), .lit (.int .u64 o)] ∧ p = [] ∧ (Lit.int .i64 n).wf = true ∧ (Lit.int .u64 l).wf = true ∧ (Lit.int .u64 o).wf = true := by
  obtain ⟨c0, c1, c2, y0, y1, y2, m, rfl, rfl, rfl, hy0, hy1, hy2⟩ := open_agg3 Try.underlying31 (by kernel_rfl) cellsGreat hv h
  obtain ⟨a, e0, rfl, wa⟩ := DataW.trod_int Try.underlying2 hy0
  obtain ⟨b, e1, rfl, wb⟩ := DataW.trod_int Try.underlying29 hy1
  obtain ⟨c, e2, rfl, wc⟩ := DataW.trod_int Try.underlying29 hy2
  simp at e0 e1 e2
  subst e0 e1 e2
  exact ⟨a, b, c, rfl, rfl, rfl, wa, wb, wc⟩
theorem shut_great {n l o : Int} (wn : (Lit.int .i64 n).wf = true) (wl : (Lit.int .u64 l).wf = true) (wo : (Lit.int .u64 o).wf = true) : DataW.Trod enc Try.prog w base spare held 31 (.agg #[.int .i64 n, .int .u64 l, .int .u64 o]) (.agg [.lit (.int .i64 n), .lit (.int .u64 l), .lit (.int .u64 o)]) [] :=
  shut_agg3 (y0 := (.lit (.int .i64 n), [])) (y1 := (.lit (.int .u64 l), [])) (y2 := (.lit (.int .u64 o), [])) Try.underlying31 (by kernel_rfl) cellsGreat ⟨1, by simp [DataW.trod, Try.underlying2, wn]⟩ ⟨1, by simp [DataW.trod, Try.underlying29, wl]⟩ ⟨1, by simp [DataW.trod, Try.underlying29, wo]⟩
end
theorem wf_I64 {n : Int} (h : (Lit.int .i64 n).wf = true) : I64 n := by
  simp [Lit.wf, IntKind.min, IntKind.max, IntKind.signed, IntKind.bits] at h
  exact ⟨by omega, by omega⟩
end Go.Proofs.Ytfiinceogenlmaa
