/- slices.AppendSeq, slices.Collect of iter.Seq[api.Often]. -/
import Derived.Test.YtjcbikkihijkiaaBgJ
namespace Go.Proofs.Ytjcbikkihijkiaa
open Go.RowKit Go.Shelf
attribute [local go_sem] Oper.semAt_some
abbrev oftE (x : Int × Nat) : Array Value := #[.agg #[.int .i64 x.1, .int .i64 (x.2 : Int)]]
def oftC (x : Int × Nat) : List Value := [.int .i64 x.1, .int .i64 (x.2 : Int)]
def oftF (L : List (Int × Nat)) : List Value := L.flatMap oftC
theorem oftF_snoc (L : List (Int × Nat)) (x : Int × Nat) : oftF (L ++ [x]) = oftF L ++ oftC x := by simp [oftF]
def OftAt (W : World) (B : Nat) (x : Int × Nat) : Prop := W.heap[B]? = some (.cells #[.int .i64 x.1, .int .i64 (x.2 : Int)] 34 (0, 0))
theorem oftAt_own (B : Nat) : Own (fun (s : Int × Nat) W => OftAt W B s) := fun s X Y row hs hg hrow =>
  (hg.block B (Array.getElem?_eq_some_iff.1 hs).1 (fun e' => by obtain ⟨o, ho, hc⟩ := hrow B e'.symm; rw [show X.heap[B]? = _ from hs] at ho; cases ho; cases hc)).trans hs
theorem cell_oft_new (w : World) (x : Int × Nat) : ∀ j u, (oftC x)[j]? = some u → (w.alloc (.cells #[.int .i64 x.1, .int .i64 (x.2 : Int)] 34)).cell? ((⟨w.heap.size, 0, none⟩ : Addr).add j) = some u := by
  intro j u hj
  have h := newB w (.cells #[.int .i64 x.1, .int .i64 (x.2 : Int)] 34)
  match j, hj with
  | 0, hj => simp [oftC] at hj; subst hj; exact cellAt (o := 0) h rfl
  | 1, hj => simp [oftC] at hj; subst hj; exact cellAt (o := 1) h rfl
theorem often_info : (Try.prog.info? 34).map (fun i => (i.zero, i.size, i.bytes)) = some (some (.agg #[.int .i64 0, .int .i64 0]), 2, 16) := by kernel_rfl
theorem OwnT.of {β : Type} {T : TypeId} {n₀ B t e size : Nat} (hte : T ≠ t) (hTe : T ≠ e) (k : β → Nat) (f : β → List Value) : OwnT T n₀ (fun s W => ∃ v, Boxed W B t v ∧ W.ownsRow n₀ e size v (k s) (f s)) := by
  rintro s X Y row ⟨v, hv, hr⟩ hg hrow
  have hne : ∀ (b : Nat) (cs : Array Value) (t' : TypeId), T ≠ t' → X.heap[b]? = some (.cells cs t' (0, 0)) → some b ≠ row := fun b cs t' hT hb e' => by
    obtain ⟨_, o, ho, hc⟩ := hrow b e'.symm
    rw [hb] at ho; cases ho
    rcases hc with hc | ⟨_, _, hc⟩
    · cases hc
    · cases hc; exact hT rfl
  refine ⟨v, hv.kept hg (hne B _ _ hte hv), hr.kept hg ?_⟩
  rcases hr.2 with ⟨rfl, _⟩ | ⟨g, cap, cur, rfl, _, hgb, _⟩
  · exact .inl rfl
  · exact .inr fun e' => hne g _ _ hTe hgb (by simpa [Value.ownBlock] using e')
theorem KeepT.appended {T : TypeId} {W w1 : World} {n₀ B : Nat} {t e : TypeId} {size : Nat} {v : Value} {k : Nat} {xs : List Value} {tmp : Obj} (v' : Value)
    (hv : Boxed W B t v) (hTt : T ≠ t) (hTe : T ≠ e) (hrow : W.ownsRow n₀ e size v k xs) (hgrow : (W.alloc tmp).grownBy w1 v.ownBlock) (hb : Below n₀ W (w1.setCell ⟨B, 0, none⟩ v')) : KeepT T n₀ W (w1.setCell ⟨B, 0, none⟩ v') := by
  refine ⟨hb, fun j cs fz hj => ?_⟩
  have h1 := keepA hj tmp
  have h2 := (hgrow.block j (only_lt h1) (fun e' => by
    rcases hrow.2 with ⟨rfl, _⟩ | ⟨g, cap, cur, rfl, _, hgb, _⟩
    · simp [Value.ownBlock] at e'
    · obtain rfl : j = g := by simpa [Value.ownBlock] using e'
      rw [hj] at hgb; cases hgb; exact hTe rfl)).trans h1
  refine (Below.heap_setCell _ ⟨B, 0, none⟩ _ j (fun e' => ?_)).trans h2
  have e2 : j = B := e'
  subst e2
  rw [hv] at hj
  cases hj
  exact hTt rfl
theorem OwnT.and {β : Type} {T : TypeId} {B : Nat} {I I' : β → World → Prop} (h : OwnT T B I) (h' : OwnT T B I') : OwnT T B (fun s W => I s W ∧ I' s W) := fun s W W' row hs hg hr => ⟨h s W W' row hs.1 hg hr, h' s W W' row hs.2 hg hr⟩
theorem ownT_below {β : Type} {T : TypeId} {n₀ B : Nat} {w₀ : World} (hn : n₀ ≤ w₀.heap.size) (hB : n₀ ≤ B) : OwnT T B (fun (_ : β) W => Below n₀ w₀ W) :=
  fun _ _ _ _ hs hg hr => hs.grown hg (Nat.le_trans hn hs.size) (fun k e => Nat.le_trans hB (hr k e).1)
theorem OwnT.later {β : Type} {T : TypeId} {B B' : Nat} {I : β → World → Prop} (h : OwnT T B I) (hB : B ≤ B') : OwnT T B' I := fun s W W' row hs hg hr => h s W W' row hs hg (fun r e => ⟨Nat.le_trans hB (hr r e).1, (hr r e).2⟩)
set_option maxRecDepth 100000 in
set_option maxHeartbeats 4000000 in
theorem appendSeq_any (gf : Nat) (lb : Array Value) (L : List (Int × Nat)) (hL : L.length ≤ 1099511627776) (w : World) (eg : ∀ args w, (callFunc gf args).run Try.prog w = .ok (.enter gf args) w)
    (hseq : SeqT 56 gf lb oftE L w) :
    Calls Try.prog 55 #[.slice none 0 0, .func (.func gf) #[] lb] w fun e W' => ∃ v, e = .returned v ∧ W'.ownsRow w.heap.size 34 2 v L.length (oftF L) ∧ Below w.heap.size w W' := by
  obtain ⟨i0, hi, hz0, hz1, hz2⟩ := info_parts often_info
  refine (callsIn_wide (n := 9)).1 ?_
  refine callsIn_of_wp_marks Try.func55 rfl trivial ?_ rfl
  simp only [Try.ntmps55, List.size_toArray, List.length_cons, List.length_nil, Nat.reduceAdd, Nat.reduceSub, Array.replicate_succ, Array.replicate_zero, List.push_toArray, List.append_toArray, List.nil_append, List.cons_append]
  gi_wp2
  have bO := Boxed.new w 31 (.slice none 0 0)
  have hB0 : Below w.heap.size w (w.alloc (.cells #[.slice none 0 0] 31)) := (Below.refl _ w).alloc (Nat.le_refl _) _
  have hsz : (w.alloc (.cells #[.slice none 0 0] 31)).heap.size = w.heap.size + 1 := alloc_size _ _
  obtain ⟨W0, hW0⟩ : ∃ W0, w.alloc (.cells #[.slice none 0 0] 31) = W0 := ⟨_, rfl⟩
  rw [hW0] at bO hB0 hsz ⊢
  clear hW0
  refine rangeSeq (T := 56) (gf := gf) (lb := lb) hB0 rfl eg hseq (fun _ => rfl)
    (fun pre W => (∃ v, Boxed W w.heap.size 31 v ∧ W.ownsRow w.heap.size 34 2 v pre.length (oftF pre)) ∧ Below w.heap.size w W)
    (OwnT.and ((OwnT.of (by decide) (by decide) (fun pre : List (Int × Nat) => pre.length) oftF).later (by omega)) (ownT_below (Nat.le_refl _) (by omega)))
    ⟨⟨_, bO, World.ownsRow_nil _ _ _ _⟩, hB0⟩
    (fun x a' W => ∃ Bx, w.heap.size < Bx ∧ OftAt W Bx x ∧ a' = { tmps := #[.slice none 0 0, .func (.func gf) #[] lb, .pointer (some ⟨w.heap.size, 0, none⟩), undef, .slice none 0 0, .pointer (some ⟨Bx, 0, none⟩), .func (.func gf) #[] lb, .agg #[.int .i64 x.1, .int .i64 (x.2 : Int)], undef, undef, undef, undef, undef], defers := [] })
    (fun x a' _ X Y row hs hg hr => by obtain ⟨Bx, h1, h2, h3⟩ := hs; exact ⟨Bx, h1, oftAt_own Bx x X Y row h2 hg (fun r e => (hr r e).2), h3⟩)
    ?assign ?body ?done
  case assign =>
    rintro l pre x W K ⟨⟨v, hv, hrow⟩, hB⟩ hs hK
    have hn := newB W (.cells #[.int .i64 x.1, .int .i64 (x.2 : Int)] 34)
    gi_wp2
    exact hK _ _ ((KeepsOthers.alloc _ _).from _) (KeepT.alloc _ hB.size) ⟨⟨v, hv.alloc _, hrow.alloc _⟩, hB.alloc hB.size _⟩ ⟨W.heap.size, hv.lt, hn, rfl⟩
  case body =>
    rintro l pre x a' W hl hlW ⟨⟨v, hv, hrow⟩, hB⟩ ⟨Bx, hBx, bX, rfl⟩ hlt
    have hc := hv.cell
    have x0 := cellAt (o := 0) (show W.heap[Bx]? = _ from bX) rfl
    have x1 := cellAt (o := 1) (show W.heap[Bx]? = _ from bX) rfl
    have hsW := hB.size
    gi_wp2_with (gi_at_builtin; refine wpListIn_append_own _ rfl _ _ 31 rfl w.heap.size 34 i0 (.agg #[.int .i64 0, .int .i64 0]) 2 16 Try.underlying31 hi hz0 hz1 hz2 rfl (by decide) _ _ _ rfl (hrow.alloc _) ⟨W.heap.size, 0, none⟩ 1 1 (oftC x) rfl rfl (cell_oft_new _ _) (by simp [oftC, Value.oneCell']) (by unfold maxLen; omega) (by omega) (by simp; omega) ?_; intro v' w1 hown' hgrow _; obtain ⟨g', cap', rfl⟩ := ownsRow_succ hown'; obtain ⟨hv1, hv2, hr2, hk2, hb2⟩ := hv.appended (by decide) hrow hB.size (Nat.le_refl _) hown' hgrow; have hc1 := hv1.cell; have hf1 := hv1.frozen)
    exact ⟨hk2.from _, KeepT.appended _ hv (by decide) (by decide) hrow hgrow hb2, ⟨_, hv2, by rw [oftF_snoc]; simpa using hr2⟩, hB.trans hb2⟩
  case done =>
    rintro D W hD ⟨⟨v, hv, hrow⟩, hB⟩ hK
    have hc := hv.cell
    gi_wp2
    refine ⟨by simp, .inl ⟨_, _, rfl, run_takeDeferred hK, ?_⟩⟩
    exact ⟨_, results_tmp rfl _ _ _, v, rfl, ownsRow_putObj hrow _ hK rfl, hB.trans (belowK_b (w := w) (Nat.le_refl _) W D _ _ (by omega) hK rfl rfl)⟩
end Go.Proofs.Ytjcbikkihijkiaa
