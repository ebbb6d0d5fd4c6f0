/- Parts of the proof: BfR BfS Lab. -/
import Derived.Test.YtangcgfchalnaaaYak
import Derived.Test.YtangcgfchalnaaaYab
import Derived.Test.YtangcgfchalnaaaYad
/- A buffer's Range. -/
namespace Go.Proofs.Ytangcgfchalnaaa
open Go.RowKit Go.Shelf
attribute [local go_sem] Oper.semAt_some
theorem range_all {t u : Int} {P : List Pt} (h : ∀ q ∈ aboveP t P, q.1 ≤ u) : rangeP t u P = aboveP t P := by
  unfold rangeP aboveP at *
  rw [show P.filter (fun q => decide (t < q.1) && decide (q.1 ≤ u)) = (P.filter (fun q => decide (t < q.1))).filter (fun q => decide (q.1 ≤ u)) from by rw [List.filter_filter]; congr 1; funext q; exact Bool.and_comm _ _]
  exact List.filter_eq_self.2 (fun q hq => by simpa using h q hq)
theorem range_cut {t u : Int} {P pre : List Pt} {x : Pt} (hr : Rise P) (hp : pre ++ [x] <+: aboveP t P) (h1 : ∀ q ∈ pre, q.1 ≤ u) (h2 : u < x.1) : rangeP t u P = pre := by
  obtain ⟨s, hs⟩ := hp
  have hra : Rise (aboveP t P) := by unfold Rise aboveP at *; exact hr.filter _
  rw [← hs] at hra
  unfold Rise at hra
  rw [List.append_assoc, List.pairwise_append] at hra
  have h3 : ∀ q ∈ [x] ++ s, u < q.1 := by
    have h4 := hra.2.1
    rw [List.singleton_append, List.pairwise_cons] at h4
    intro q hq
    rcases List.mem_cons.1 hq with rfl | hq
    · exact h2
    · have := h4.1 q hq; omega
  unfold rangeP
  rw [show P.filter (fun q => decide (t < q.1) && decide (q.1 ≤ u)) = (aboveP t P).filter (fun q => decide (q.1 ≤ u)) from by unfold aboveP; rw [List.filter_filter]; congr 1; funext q; exact Bool.and_comm _ _]
  rw [← hs, List.append_assoc, List.filter_append, filter_all (fun q hq => by simpa using h1 q hq), filter_no (fun q hq => by have := h3 q hq; simp; omega), List.append_nil]
/-- A row of points of the call's own. -/
abbrev PtRow (w W' : World) (v : Value) (L : List Pt) : Prop := W'.ownsRow w.heap.size 86 3 v L.length (pcs L)
theorem KpB.trans {n0 Bf : Nat} {t : Int} {A B C : World} (h : KpB n0 Bf t A B) (k : KpB n0 Bf t B C) : KpB n0 Bf t A C := ⟨h.below.trans k.below, fun hb => k.box (h.box hb)⟩
theorem KpB.refl (n0 Bf : Nat) (t : Int) (W : World) : KpB n0 Bf t W W := ⟨Below.refl _ _, fun h => h⟩
theorem KpB.put {n0 Bf : Nat} {t : Int} {w : World} (hn : n0 ≤ w.heap.size) (W : World) (l : Nat) (o o' : Obj) (hl : w.heap.size ≤ l) (h : W.heap[l]? = some o) (ho : o.isCells = false) (hw : o.isWalk = false) : KpB n0 Bf t W (W.putObj l o') :=
  ⟨belowK_b hn W l o o' hl h ho hw, fun hb => by
    have hne : Bf ≠ l := fun e => by rw [e, h] at hb; cases hb; cases ho
    exact ((grownBy_putObj' W l o').block Bf (only_lt hb) (fun e => hne (by cases e; rfl))).trans hb⟩
theorem KpB.alloc {n0 Bf : Nat} {t : Int} {W : World} (o : Obj) (hn : n0 ≤ W.heap.size) : KpB n0 Bf t W (W.alloc o) := ⟨(Below.refl _ _).alloc hn _, fun hb => keepA hb o⟩
theorem KpB.appended {n n0 Bf B : Nat} {t : Int} {W w1 : World} {v v' : Value} {k : Nat} {xs : List Value} {tmp : Obj} (hv : Boxed W B 81 v) (hrow : W.ownsRow n 86 3 v k xs) (hgrow : (W.alloc tmp).grownBy w1 v.ownBlock)
    (hb : Below n0 W (w1.setCell ⟨B, 0, none⟩ v')) : KpB n0 Bf t W (w1.setCell ⟨B, 0, none⟩ v') := by
  refine ⟨hb, fun hf => ?_⟩
  have h1 := keepA hf tmp
  have h2 := (hgrow.block Bf (only_lt h1) (fun e' => by
    rcases hrow.2 with ⟨rfl, _⟩ | ⟨g, cap, cur, rfl, _, hgb, _⟩
    · simp [Value.ownBlock] at e'
    · obtain rfl : Bf = g := by simpa [Value.ownBlock] using e'
      rw [hf] at hgb; cases hgb)).trans h1
  refine (Below.heap_setCell _ ⟨B, 0, none⟩ _ Bf (fun e' => ?_)).trans h2
  have e2 : Bf = B := e'
  subst e2
  rw [hv] at hf
  cases hf
/-- A box that holds the points that are gathered. -/
abbrev Gath (w W : World) (B : Nat) (L : List Pt) : Prop := ∃ v, Boxed W B 81 v ∧ W.ownsRow w.heap.size 86 3 v L.length (pcs L) ∧ True
theorem gath_own (w : World) (B : Nat) : Own (fun (L : List Pt) W => Gath w W B L) := holdsRow_own w.heap.size B 81 86 3 (fun L => L.length) pcs (fun _ _ => True)
theorem cell_pt_new (w : World) (x : Pt) : ∀ j u, (pc x)[j]? = some u → (w.alloc (.cells #[.int .i64 x.1, .int .i64 x.2, .bool false] 86)).cell? ((⟨w.heap.size, 0, none⟩ : Addr).add j) = some u := by
  intro j u hj
  have h := newB w (.cells #[.int .i64 x.1, .int .i64 x.2, .bool false] 86)
  match j, hj with
  | 0, hj => simp [pc] at hj; subst hj; exact cellAt (o := 0) h rfl
  | 1, hj => simp [pc] at hj; subst hj; exact cellAt (o := 1) h rfl
  | 2, hj => simp [pc] at hj; subst hj; exact cellAt (o := 2) h rfl
theorem pcs_snoc (L : List Pt) (x : Pt) : pcs (L ++ [x]) = pcs L ++ pc x := by rw [pcs_append]; simp [pcs]
/-- A point in its box. -/
def PtBox (W : World) (B : Nat) (p : Pt) : Prop := W.heap[B]? = some (.cells #[.int .i64 p.1, .int .i64 p.2, .bool false] 86 (0, 0))
theorem ptBox_own (B : Nat) : Own (fun (s : Pt) W => PtBox W B s) := fun s X Y row hs hg hrow =>
  (hg.block B (Array.getElem?_eq_some_iff.1 hs).1 (fun e' => by obtain ⟨o, ho, hc⟩ := hrow B e'.symm; rw [show X.heap[B]? = _ from hs] at ho; cases ho; cases hc)).trans hs
/-- What Range keeps from round to round. -/
structure RgI (w W : World) (n Bu Bo : Nat) (u : Int) (L : List Pt) : Prop where
  box : Boxed W Bu 2 (.int .i64 u)
  gath : ∃ v, Boxed W Bo 81 v ∧ W.ownsRow n 86 3 v L.length (pcs L) ∧ True
  below : Below n w W
theorem RgI.own {w : World} {n Bu Bo B : Nat} {u : Int} {β : Type} (f : β → List Pt) (hn : n ≤ w.heap.size) (hB : n ≤ B) : OwnFrom B (fun (L : β) W => RgI w W n Bu Bo u (f L)) := fun s X Y row hs hg hr =>
  ⟨(boxed_own (β := Unit) Bu 2 (fun _ => .int .i64 u)).from B () X Y row hs.box hg hr,
   (holdsRow_own n Bo 81 86 3 (fun L => L.length) pcs (fun _ _ => True)).from B (f s) X Y row hs.gath hg hr,
   ownFrom_below (β := Unit) hn hB () X Y row hs.below hg hr⟩
/-- What AppendSeq keeps from round to round. -/
structure RgK (w W : World) (n Bo : Nat) (L : List Pt) : Prop where
  gath : ∃ v, Boxed W Bo 81 v ∧ W.ownsRow n 86 3 v L.length (pcs L) ∧ True
  below : Below n w W
theorem RgK.own {w : World} {n Bo B : Nat} {β : Type} (f : β → List Pt) (hn : n ≤ w.heap.size) (hB : n ≤ B) : OwnFrom B (fun (L : β) W => RgK w W n Bo (f L)) := fun s X Y row hs hg hr =>
  ⟨(holdsRow_own n Bo 81 86 3 (fun L => L.length) pcs (fun _ _ => True)).from B (f s) X Y row hs.gath hg hr,
   ownFrom_below (β := Unit) hn hB () X Y row hs.below hg hr⟩
structure RgJ (w W : World) (n Bu Bo : Nat) (u : Int) (L : List Pt) : Prop where
  i : RgI w W n Bu Bo u L
  le : ∀ x ∈ L, x.1 ≤ u
def RgX (w W : World) (n Bu Bo : Nat) (u : Int) (c : Code) (L : List Pt) : Prop := ∃ L0 x, c = .exit 0 ∧ L = L0 ++ [x] ∧ u < x.1 ∧ RgJ w W n Bu Bo u L0
set_option maxRecDepth 100000 in
set_option maxHeartbeats 4000000 in
theorem rangeS_any {w : World} {L P : List Pt} (q : Option Addr) (t u : Int) (hr : Rise P) (hL : L = aboveP t P) (hP : P.length ≤ 65536)
    (hseq : ∀ W : World, Below w.heap.size w W → W.heap[w.heap.size + 2]? = some (.cells #[.pointer q] 63 (0, 0)) → W.heap[w.heap.size + 3]? = some (.cells #[.int .i64 t] 2 (0, 0)) →
      SeqP 90 #[.pointer (some ⟨w.heap.size + 2, 0, none⟩), .pointer (some ⟨w.heap.size + 3, 0, none⟩)] L w.heap.size (w.heap.size + 3) t W) :
    Calls Try.prog 60 #[.pointer q, .int .i64 t, .int .i64 u] w fun e W' => ∃ v, e = .returned v ∧ PtRow w W' v (rangeP t u P) ∧ Below w.heap.size w W' := by
  obtain ⟨i0, hi, hz0, hz1, hz2⟩ := info_parts pInfo
  have CP := Lib.hid (fun W => points_fn q t W)
  have HLP : L.length ≤ 65536 := by rw [hL]; exact Nat.le_trans (List.length_filter_le _ _) hP
  refine (callsIn_wide (n := 9)).1 ?_
  refine callsIn_of_wp_marks Try.func60 rfl trivial ?_ rfl
  simp only [Try.ntmps60, List.size_toArray, List.length_cons, List.length_nil, Nat.reduceAdd, Nat.reduceSub, Array.replicate_succ, Array.replicate_zero, List.push_toArray, List.append_toArray, List.nil_append, List.cons_append]
  gi_wp2_with (refine ⟨trivial, ?_⟩; refine (callsIn_wide.2 (CP.out _)).mono ?_; rintro e w1 ⟨rfl, rfl⟩)
  have b1 := newB w (.cells #[.int .i64 u] 2)
  have b2 := newB (w.alloc (.cells #[.int .i64 u] 2)) (.cells #[.slice none 0 0] 81)
  have b3 := newB ((w.alloc (.cells #[.int .i64 u] 2)).alloc (.cells #[.slice none 0 0] 81)) (.cells #[.pointer q] 63)
  have b4 := newB (((w.alloc (.cells #[.int .i64 u] 2)).alloc (.cells #[.slice none 0 0] 81)).alloc (.cells #[.pointer q] 63)) (.cells #[.int .i64 t] 2)
  replace b1 := keepA (keepA (keepA b1 (.cells #[.slice none 0 0] 81)) (.cells #[.pointer q] 63)) (.cells #[.int .i64 t] 2)
  replace b2 := keepA (keepA b2 (.cells #[.pointer q] 63)) (.cells #[.int .i64 t] 2)
  replace b3 := keepA b3 (.cells #[.int .i64 t] 2)
  have HB0 := below_alloc (below_alloc (below_alloc (below_alloc (Below.refl w.heap.size w) (.cells #[.int .i64 u] 2)) (.cells #[.slice none 0 0] 81)) (.cells #[.pointer q] 63)) (.cells #[.int .i64 t] 2)
  have hsz : ((((w.alloc (.cells #[.int .i64 u] 2)).alloc (.cells #[.slice none 0 0] 81)).alloc (.cells #[.pointer q] 63)).alloc (.cells #[.int .i64 t] 2)).heap.size = w.heap.size + 4 := by simp only [alloc_size]
  simp only [alloc_size] at b2 b3 b4
  obtain ⟨W0, hW0⟩ : ∃ W0, (((w.alloc (.cells #[.int .i64 u] 2)).alloc (.cells #[.slice none 0 0] 81)).alloc (.cells #[.pointer q] 63)).alloc (.cells #[.int .i64 t] 2) = W0 := ⟨_, rfl⟩
  rw [hW0] at b1 b2 b3 b4 HB0 hsz ⊢
  clear hW0
  have HS := hseq W0 HB0 b3 b4
  obtain ⟨n, hn⟩ : ∃ n, w.heap.size = n := ⟨_, rfl⟩
  rw [hn] at b1 b2 b3 b4 HB0 hsz HS ⊢
  clear hseq
  refine wpIn_rangeFunc_ownH rfl (by decide) (gf := 90) (lb := #[.pointer (some ⟨n + 2, 0, none⟩), .pointer (some ⟨n + 3, 0, none⟩)]) rfl trivial (enters_of Try.func90 (by kernel_rfl) rfl)
    HS (fun h k => h.trans k) (fun W l o o' hl h ho hw => KpB.put (w := W0) (by omega) W l o o' hl h ho hw) (Below.refl _ _) (fun _ => rfl)
    (fun pre W => RgJ w W n n (n + 1) u pre) (fun c pre W => RgX w W n n (n + 1) u c pre)
    (fun s X Y row hs hg hr => ⟨RgI.own id (by omega) (by omega) s X Y row hs.i hg hr, hs.le⟩)
    (fun c s X Y row hs hg hr => by obtain ⟨p0, x, h1, h2, h3, h4⟩ := hs; exact ⟨p0, x, h1, h2, h3, RgI.own id (by omega) (by omega) p0 X Y row h4.i hg hr, h4.le⟩)
    ⟨⟨b1, ⟨_, b2, World.ownsRow_nil _ _ _ _, trivial⟩, HB0⟩, by simp⟩
    (fun x a' W => ∃ Bx, n + 1 < Bx ∧ PtBox W Bx x ∧ a' = { tmps := #[.pointer q, .int .i64 t, .int .i64 u, undef, undef, .pointer (some ⟨n, 0, none⟩), .slice none 0 0, .pointer (some ⟨n + 1, 0, none⟩), .pointer (some ⟨Bx, 0, none⟩), .pointer q, .int .i64 t,
      .func (.func 90) #[] #[.pointer (some ⟨n + 2, 0, none⟩), .pointer (some ⟨n + 3, 0, none⟩)], bpv x, undef, undef, undef, undef, undef, undef, undef, undef, undef], defers := [] })
    (fun x a' _ X Y row hs hg hr => by obtain ⟨Bx, h1, h2, h3⟩ := hs; exact ⟨Bx, h1, ptBox_own Bx x X Y row h2 hg (fun r e => (hr r e).2), h3⟩)
    ?assign ?body ?done ?stop
  case assign =>
    rintro l pre x W K ⟨HI, HL⟩ hK
    have hs : n ≤ W.heap.size := hn ▸ HI.below.size
    have hlt := HI.box.lt
    have hlt2 : n + 1 < W.heap.size := by obtain ⟨v, hv, _⟩ := HI.gath; exact hv.lt
    gi_wp2
    exact hK _ _ ((KeepsOthers.alloc _ _).from _) (KpB.alloc _ hs) ⟨⟨HI.box.alloc _, by obtain ⟨v, h1, h2, h3⟩ := HI.gath; exact ⟨v, h1.alloc _, h2.alloc _, h3⟩, HI.below.alloc hs _⟩, HL⟩ ⟨W.heap.size, hlt2, newB W _, rfl⟩
  case body =>
    rintro l pre x a' W hl hlW ⟨HI, HL⟩ ⟨Bx, hBx, bX, rfl⟩ hlt
    obtain ⟨v, hv, hrow, _⟩ := HI.gath
    have hc := hv.cell
    have hu := HI.box.cell
    have x0 := cellAt (o := 0) (show W.heap[Bx]? = _ from bX) rfl
    have x1 := cellAt (o := 1) (show W.heap[Bx]? = _ from bX) rfl
    have x2 := cellAt (o := 2) (show W.heap[Bx]? = _ from bX) rfl
    have hsW : n ≤ W.heap.size := hn ▸ HI.below.size
    by_cases e1 : u < x.1
    · gi_wp2
      exact ⟨KeepsFrom.refl _ _, pre, x, rfl, rfl, e1, HI, HL⟩
    · gi_wp2_with (gi_at_builtin; refine wpListIn_append_own _ rfl _ _ 81 rfl n 86 i0 (.agg #[.int .i64 0, .int .i64 0, .bool false]) 3 24 Try.underlying81 hi hz0 hz1 hz2 rfl (by decide) _ _ _ rfl (hrow.alloc _) ⟨W.heap.size, 0, none⟩ 1 1 (pc x) rfl rfl (cell_pt_new _ _) (by simp [pc, Value.oneCell']) (by unfold maxLen; omega) (by omega) (by simp; omega) ?_; intro v' w1 hown' hgrow _; obtain ⟨g', cap', rfl⟩ := ownsRow_succ hown'; obtain ⟨hv1, hv2, hr2, hk2, hb2⟩ := hv.appended (by decide) hrow hsW (by omega) hown' hgrow; have hc1 := hv1.cell; have hf1 := hv1.frozen)
      exact ⟨hk2.from _, KpB.appended hv hrow hgrow hb2, ⟨((HI.box.alloc _).kept hgrow (HI.box.not_row (by decide) hrow)).other (by omega) _, ⟨_, hv2, by rw [pcs_snoc]; simpa using hr2, trivial⟩, HI.below.trans hb2⟩, fun y hy => by rcases List.mem_append.1 hy with hy | hy; exact HL y hy; simp at hy; subst hy; omega⟩
  case done =>
    rintro D xs W hD rfl ⟨HI, HL⟩ hK
    subst hn
    obtain ⟨v, hv, hrow, _⟩ := HI.gath
    have hc := hv.cell
    gi_wp2
    refine ⟨by simp, .inl ⟨_, _, rfl, run_takeDeferred hK, ?_⟩⟩
    refine ⟨_, results_tmp rfl _ _ _, v, rfl, ?_, HI.below.trans (belowK_b (w := W0) (by omega) W D _ _ (by omega) hK rfl rfl)⟩
    rw [range_all (by rw [← hL]; exact HL), ← hL]
    exact ownsRow_putObj hrow _ hK rfl
  case stop =>
    rintro D c pre W hD hpre ⟨p0, x, rfl, rfl, e1, HI, HL⟩ hK
    subst hn
    obtain ⟨v, hv, hrow, _⟩ := HI.gath
    have hc := hv.cell
    gi_wp2
    refine ⟨by simp, .inl ⟨_, _, rfl, run_takeDeferred hK, ?_⟩⟩
    refine ⟨_, results_tmp rfl _ _ _, v, rfl, ?_, HI.below.trans (belowK_b (w := W0) (by omega) W D _ _ (by omega) hK rfl rfl)⟩
    rw [range_cut hr (by rw [← hL]; exact hpre) HL e1]
    exact ownsRow_putObj hrow _ hK rfl
theorem brange_any {w : World} {F : Nat → Prop} {b : Nat} {P : List Pt} {fl : Int} (t u : Int) (h : BufL w F b P fl) :
    Calls Try.prog 60 #[bptr b, .int .i64 t, .int .i64 u] w fun e W' => ∃ v, e = .returned v ∧ PtRow w W' v (rangeP t u P) ∧ Below w.heap.size w W' :=
  rangeS_any (some ⟨b, 0, none⟩) t u h.rise rfl (by obtain ⟨Z, v, _, _, _, h4⟩ := h; exact h4) (fun W hW hb hf => points1_seq h hW hb hf)
theorem brange_nil (t u : Int) (w : World) :
    Calls Try.prog 60 #[.pointer none, .int .i64 t, .int .i64 u] w fun e W' => ∃ v, e = .returned v ∧ PtRow w W' v [] ∧ Below w.heap.size w W' :=
  rangeS_any (P := []) none t u List.Pairwise.nil rfl (by simp) (fun W hW hb hf => points1_nil hb)
/-! ### slices.AppendSeq, Collect: Points -/
set_option maxRecDepth 100000 in
set_option maxHeartbeats 4000000 in
theorem appendSeqP_any {w0 w : World} {Bb Bf : Nat} {t : Int} {L : List Pt} (hL : L.length ≤ 65536) (h0 : Below w0.heap.size w0 w)
    (hseq : SeqP 90 #[.pointer (some ⟨Bb, 0, none⟩), .pointer (some ⟨Bf, 0, none⟩)] L w0.heap.size Bf t w) :
    Calls Try.prog 89 #[.slice none 0 0, .func (.func 90) #[] #[.pointer (some ⟨Bb, 0, none⟩), .pointer (some ⟨Bf, 0, none⟩)]] w fun e W' => ∃ v, e = .returned v ∧ PtRow w W' v L ∧ Below w.heap.size w W' := by
  obtain ⟨i0, hi, hz0, hz1, hz2⟩ := info_parts pInfo
  refine (callsIn_wide (n := 9)).1 ?_
  refine callsIn_of_wp_marks Try.func89 rfl trivial ?_ rfl
  simp only [Try.ntmps89, List.size_toArray, List.length_cons, List.length_nil, Nat.reduceAdd, Nat.reduceSub, Array.replicate_succ, Array.replicate_zero, List.push_toArray, List.append_toArray, List.nil_append, List.cons_append]
  gi_wp2
  have b2 := newB w (.cells #[.slice none 0 0] 81)
  have HB0 := below_alloc (Below.refl w.heap.size w) (.cells #[.slice none 0 0] 81)
  have hsz := alloc_size w (.cells #[.slice none 0 0] 81)
  obtain ⟨W0, hW0⟩ : ∃ W0, w.alloc (.cells #[.slice none 0 0] 81) = W0 := ⟨_, rfl⟩
  have hnn := h0.size
  obtain ⟨n, hn⟩ : ∃ n, w.heap.size = n := ⟨_, rfl⟩
  obtain ⟨m, hm⟩ : ∃ m, w0.heap.size = m := ⟨_, rfl⟩
  rw [hW0] at b2 HB0 hsz ⊢
  rw [hn] at b2 HB0 hsz hnn ⊢
  rw [hm] at hnn hseq
  clear hW0
  refine wpIn_rangeFunc_ownH rfl (by decide) (gf := 90) (lb := #[.pointer (some ⟨Bb, 0, none⟩), .pointer (some ⟨Bf, 0, none⟩)]) rfl trivial (enters_of Try.func90 (by kernel_rfl) rfl)
    hseq (fun h k => h.trans k) (fun W l o o' hl h ho hw => KpB.put (w := W0) (by omega) W l o o' hl h ho hw) (by rw [hn]; exact HB0) (fun _ => rfl)
    (fun pre W => RgK w W n n pre) (fun _ _ _ => False)
    (fun s X Y row hs hg hr => RgK.own id (by omega) (by omega) s X Y row hs hg hr)
    (fun c s X Y row hs hg hr => hs)
    ⟨⟨_, b2, World.ownsRow_nil _ _ _ _, trivial⟩, HB0⟩
    (fun x a' W => ∃ Bx, n < Bx ∧ PtBox W Bx x ∧ a' = { tmps := #[.slice none 0 0, .func (.func 90) #[] #[.pointer (some ⟨Bb, 0, none⟩), .pointer (some ⟨Bf, 0, none⟩)], .pointer (some ⟨n, 0, none⟩), undef, .slice none 0 0, .pointer (some ⟨Bx, 0, none⟩), .func (.func 90) #[] #[.pointer (some ⟨Bb, 0, none⟩), .pointer (some ⟨Bf, 0, none⟩)], bpv x, undef, undef, undef, undef, undef], defers := [] })
    (fun x a' _ X Y row hs hg hr => by obtain ⟨Bx, h1, h2, h3⟩ := hs; exact ⟨Bx, h1, ptBox_own Bx x X Y row h2 hg (fun r e => (hr r e).2), h3⟩)
    ?assign ?body ?done ?stop
  case assign =>
    rintro l pre x W K HI hK
    have hs : n ≤ W.heap.size := hn ▸ HI.below.size
    have hlt2 : n < W.heap.size := by obtain ⟨v, hv, _⟩ := HI.gath; exact hv.lt
    gi_wp2
    exact hK _ _ ((KeepsOthers.alloc _ _).from _) (KpB.alloc _ (by omega)) ⟨by obtain ⟨v, h1, h2, h3⟩ := HI.gath; exact ⟨v, h1.alloc _, h2.alloc _, h3⟩, HI.below.alloc hs _⟩ ⟨W.heap.size, hlt2, newB W _, rfl⟩
  case body =>
    rintro l pre x a' W hl hlW HI ⟨Bx, hBx, bX, rfl⟩ hlt
    obtain ⟨v, hv, hrow, _⟩ := HI.gath
    have hc := hv.cell
    have x0 := cellAt (o := 0) (show W.heap[Bx]? = _ from bX) rfl
    have x1 := cellAt (o := 1) (show W.heap[Bx]? = _ from bX) rfl
    have x2 := cellAt (o := 2) (show W.heap[Bx]? = _ from bX) rfl
    have hsW : n ≤ W.heap.size := hn ▸ HI.below.size
    gi_wp2_with (gi_at_builtin; refine wpListIn_append_own _ rfl _ _ 81 rfl n 86 i0 (.agg #[.int .i64 0, .int .i64 0, .bool false]) 3 24 Try.underlying81 hi hz0 hz1 hz2 rfl (by decide) _ _ _ rfl (hrow.alloc _) ⟨W.heap.size, 0, none⟩ 1 1 (pc x) rfl rfl (cell_pt_new _ _) (by simp [pc, Value.oneCell']) (by unfold maxLen; omega) (by omega) (by simp; omega) ?_; intro v' w1 hown' hgrow _; obtain ⟨g', cap', rfl⟩ := ownsRow_succ hown'; obtain ⟨hv1, hv2, hr2, hk2, hb2⟩ := hv.appended (by decide) hrow hsW (by omega) hown' hgrow; have hc1 := hv1.cell; have hf1 := hv1.frozen)
    exact ⟨hk2.from _, KpB.appended hv hrow hgrow (hb2.mono hnn), ⟨_, hv2, by rw [pcs_snoc]; simpa using hr2, trivial⟩, HI.below.trans hb2⟩
  case done =>
    rintro D xs W hD rfl HI hK
    subst hn
    obtain ⟨v, hv, hrow, _⟩ := HI.gath
    have hc := hv.cell
    gi_wp2
    refine ⟨by simp, .inl ⟨_, _, rfl, run_takeDeferred hK, ?_⟩⟩
    exact ⟨_, results_tmp rfl _ _ _, v, rfl, ownsRow_putObj hrow _ hK rfl, HI.below.trans (belowK_b (w := W0) (by omega) W D _ _ (by omega) hK rfl rfl)⟩
  case stop =>
    rintro D c pre W _ _ h _
    exact h.elim
theorem collectP_any {w0 w : World} {Bb Bf : Nat} {t : Int} {L : List Pt} (hL : L.length ≤ 65536) (h0 : Below w0.heap.size w0 w)
    (hseq : SeqP 90 #[.pointer (some ⟨Bb, 0, none⟩), .pointer (some ⟨Bf, 0, none⟩)] L w0.heap.size Bf t w) :
    Calls Try.prog 72 #[.func (.func 90) #[] #[.pointer (some ⟨Bb, 0, none⟩), .pointer (some ⟨Bf, 0, none⟩)]] w fun e W' => ∃ v, e = .returned v ∧ PtRow w W' v L ∧ Below w.heap.size w W' := by
  have C := Lib.hid (appendSeqP_any hL h0 hseq)
  clear hseq
  go_enter Try.func72, Try.ntmps72
  go_wp2_with fail
  refine C.out.mono ?_
  rintro e w1 ⟨v, rfl, hr, hb⟩
  obtain ⟨a, cap, rfl⟩ := or_form hr
  have HR := Lib.hid hr
  clear hr C
  go_wp2_with fail
  go_ret
  exact ⟨_, rfl, HR.out, hb⟩
theorem pointsS_any {w : World} {P : List Pt} (q : Option Addr) (hP : P.length ≤ 65536)
    (hseq : ∀ W : World, Below w.heap.size w W → W.heap[w.heap.size]? = some (.cells #[.pointer q] 63 (0, 0)) → W.heap[w.heap.size + 1]? = some (.cells #[.int .i64 0] 2 (0, 0)) →
      SeqP 90 #[.pointer (some ⟨w.heap.size, 0, none⟩), .pointer (some ⟨w.heap.size + 1, 0, none⟩)] (aboveP 0 P) w.heap.size (w.heap.size + 1) 0 W) :
    Calls Try.prog 48 #[.pointer q] w fun e W' => ∃ v, e = .returned v ∧ PtRow w W' v (aboveP 0 P) ∧ Below w.heap.size w W' := by
  have b1 := keepA (newB w (.cells #[.pointer q] 63)) (.cells #[.int .i64 0] 2)
  have b2 := newB (w.alloc (.cells #[.pointer q] 63)) (.cells #[.int .i64 0] 2)
  have HB0 := below_alloc (below_alloc (Below.refl w.heap.size w) (.cells #[.pointer q] 63)) (.cells #[.int .i64 0] 2)
  rw [alloc_size] at b2
  have C := Lib.hid (collectP_any (L := aboveP 0 P) (Nat.le_trans (List.length_filter_le _ _) hP) HB0 (hseq _ HB0 b1 b2))
  have HB := Lib.hid HB0
  have CF := Lib.hid (points_fn q 0 w)
  obtain ⟨L, hL⟩ : ∃ L, aboveP 0 P = L := ⟨_, rfl⟩
  rw [hL] at C ⊢
  clear hseq b1 b2 HB0 hL
  go_enter Try.func48, Try.ntmps48
  go_wp2_with fail
  refine CF.out.mono ?_
  rintro e w1 ⟨rfl, rfl⟩
  go_wp2_with fail
  refine C.out.mono ?_
  rintro e w1 ⟨v, rfl, hr, hb⟩
  obtain ⟨a, cap, rfl⟩ := or_form hr
  have HR := Lib.hid hr
  have HB1 := Lib.hid hb
  clear hr hb C CF
  go_wp2_with fail
  go_ret
  exact ⟨_, rfl, ⟨HR.out.1, HR.out.2.imp id (by rintro ⟨g, c, cu, h1, h2, h3⟩; exact ⟨g, c, cu, h1, by have := HB.out.size; omega, h3⟩)⟩, HB.out.trans (HB1.out.mono HB.out.size)⟩
theorem bpts_any {w : World} {F : Nat → Prop} {b : Nat} {P : List Pt} {fl : Int} (h : BufL w F b P fl) :
    Calls Try.prog 48 #[bptr b] w fun e W' => ∃ v, e = .returned v ∧ PtRow w W' v (aboveP 0 P) ∧ Below w.heap.size w W' :=
  pointsS_any (some ⟨b, 0, none⟩) (by obtain ⟨Z, v, _, _, _, h4⟩ := h; exact h4) (fun W hW hb hf => points1_seq h hW hb hf)
theorem bpts_nil (w : World) :
    Calls Try.prog 48 #[.pointer none] w fun e W' => ∃ v, e = .returned v ∧ PtRow w W' v [] ∧ Below w.heap.size w W' :=
  pointsS_any (P := []) none (by simp) (fun W hW hb hf => points1_nil hb)
end Go.Proofs.Ytangcgfchalnaaa

/- A buffer of a law's own; the chapter's examples (lives). -/
namespace Go.Proofs.Ytangcgfchalnaaa
open Go.RowKit
/-- A buffer, as an object. -/
def BufO (b : Nat) (P : List Pt) (fl : Int) : Ob := fun w F => BufL w F b P fl
theorem BufO.obj (b : Nat) (P : List Pt) (fl : Int) : Obj1 (BufO b P fl) where
  keep := fun ⟨Z, v, h1, h2⟩ ho hn => ⟨Z, v, h1.keep ho hn, h2⟩
  old := fun h => h.old
  weak := fun ⟨Z, v, h1, h2⟩ hG => ⟨Z, v, h1.weak hG, h2⟩
section
variable {w : World} {F : Nat → Prop} {b : Nat} {P P' : List Pt} {fl : Int}
theorem put_go (t m : Int) {x : Int} (he : putE t P fl = x) (hp : putP t m P fl = P') (h : BufO b P fl w F) : Calls Try.prog 29 #[bptr b, .int .i64 t, .int .i64 m] w fun e w' => e = .returned (.int .i64 x) ∧ Goes (BufO b P' fl) F w w' := by
  subst he hp; exact bPut_any t m h
theorem trim_go (t : Int) {x y f : Int} (he : trimE t P fl = (x, y)) (hp : trimP t P fl = P') (hf : trimF t fl = f) (h : BufO b P fl w F) : Calls Try.prog 28 #[bptr b, .int .i64 t] w fun e w' => e = .returned (.tuple #[.int .i64 x, .int .i64 y]) ∧ Goes (BufO b P' f) F w w' := by
  subst hp hf
  have := bTrim_any t h
  rw [he] at this; exact this
theorem len_go {n : Nat} (hn : P.length = n) (h : BufO b P fl w F) : Calls Try.prog 44 #[bptr b] w fun e w' => e = .returned (.int .i64 (n : Int)) ∧ Below w.heap.size w w' := by
  obtain ⟨Z, v, h1, _⟩ := h
  subst hn; exact blen_any h1
theorem range_go (t u : Int) {L : List Pt} {n : Nat} (hL : rangeP t u P = L) (hn : L.length = n) (h : BufO b P fl w F) : Calls Try.prog 60 #[bptr b, .int .i64 t, .int .i64 u] w fun e W' => ∃ A c, e = .returned (.slice A n c) ∧ W'.ownsRow w.heap.size 86 3 (.slice A n c) n (pcs L) ∧ Below w.heap.size w W' := by
  subst hL hn
  refine (brange_any t u h).mono ?_
  rintro e W' ⟨v, rfl, h1, h2⟩
  obtain ⟨a, c, rfl⟩ := or_form h1
  exact ⟨a, c, rfl, h1, h2⟩
theorem pts_go {L : List Pt} {n : Nat} (hL : aboveP 0 P = L) (hn : L.length = n) (h : BufO b P fl w F) : Calls Try.prog 48 #[bptr b] w fun e W' => ∃ A c, e = .returned (.slice A n c) ∧ W'.ownsRow w.heap.size 86 3 (.slice A n c) n (pcs L) ∧ Below w.heap.size w W' := by
  subst hL hn
  refine (bpts_any h).mono ?_
  rintro e W' ⟨v, rfl, h1, h2⟩
  obtain ⟨a, c, rfl⟩ := or_form h1
  exact ⟨a, c, rfl, h1, h2⟩
end
/-- New: the law's first object. -/
theorem new_lm {w0 w : World} (hb : Below w0.heap.size w0 w) : Calls Try.prog 27 #[] w fun e w' => e = .returned (bptr w.heap.size) ∧ LM w0 (BufO w.heap.size [] 0) w' := by
  refine (bnew_any w).mono ?_
  rintro e w' ⟨h1, h2, h3, h4⟩
  exact ⟨h1, LM.first hb h3 (F := fun k => k = w.heap.size) h2 (fun k e => by omega)⟩
end Go.Proofs.Ytangcgfchalnaaa

/- Names, labels, series, samples: whether they may be. -/
namespace Go.Proofs.Ytangcgfchalnaaa
open Go.RowKit
/-! ### Names -/
def okC (c : Int) : Bool := decide (97 ≤ c ∧ c ≤ 122) || decide (48 ≤ c ∧ c ≤ 57) || decide (c = 95)
/-- Whether a text is a name. -/
def nameB (s : ByteArray) : Bool := decide (1 ≤ s.size ∧ s.size ≤ 24) && !(decide (48 ≤ ((s.data.toList.headD 0).toNat : Int) ∧ ((s.data.toList.headD 0).toNat : Int) ≤ 57)) && s.data.toList.all (fun c => okC (c.toNat : Int))
theorem head_get {s : ByteArray} (h : 0 < s.size) : s.data.toList.headD 0 = s[0] := by
  obtain ⟨⟨l⟩⟩ := s
  cases l with
  | nil => exact absurd h (by decide)
  | cons a r => rfl
theorem mem_get {s : ByteArray} {c : UInt8} (h : c ∈ s.data.toList) : ∃ (k : Nat) (hk : k < s.size), s[k] = c := by
  obtain ⟨k, hk, e⟩ := List.mem_iff_getElem.1 h
  exact ⟨k, by simpa using hk, e⟩
theorem get_mem (s : ByteArray) (k : Nat) (hk : k < s.size) : s[k] ∈ s.data.toList := List.mem_iff_getElem.2 ⟨k, by simpa using hk, rfl⟩
set_option maxHeartbeats 2000000 in
set_option maxRecDepth 100000 in
theorem name_any (s : ByteArray) (w : World) : Calls Try.prog 74 #[.string s] w fun e w' => e = .returned (.bool (nameB s)) ∧ w = w' := by
  obtain ⟨b, hb⟩ : ∃ b, nameB s = b := ⟨_, rfl⟩
  rw [hb]
  have HB := Lib.hid hb
  clear hb
  by_cases h1 : s.size < 1
  · obtain rfl : false = b := by rw [← HB.out]; unfold nameB; rw [show decide (1 ≤ s.size ∧ s.size ≤ 24) = false by simp; omega]; rfl
    have h2 : (s.size : Int) < 1 := by omega
    go_enter Try.func74, Try.ntmps74
    go_wp2_with fail
    go_ret
    exact ⟨rfl, rfl⟩
  by_cases h2 : 24 < s.size
  · obtain rfl : false = b := by rw [← HB.out]; unfold nameB; rw [show decide (1 ≤ s.size ∧ s.size ≤ 24) = false by simp; omega]; rfl
    have h1' : ¬ (s.size : Int) < 1 := by omega
    have h2' : (24 : Int) < s.size := by omega
    go_enter Try.func74, Try.ntmps74
    go_wp2_with fail
    go_ret
    exact ⟨rfl, rfl⟩
  have h0 : 0 < s.size := by omega
  have h1' : ¬ (s.size : Int) < 1 := by omega
  have h2' : ¬ (24 : Int) < s.size := by omega
  have hE : nameB s = (!(decide ((48 : Int) ≤ ((s[0]).toNat : Int) ∧ ((s[0]).toNat : Int) ≤ (57 : Int))) && s.data.toList.all (fun c => okC (c.toNat : Int))) := by
    unfold nameB
    rw [head_get h0, show decide (1 ≤ s.size ∧ s.size ≤ 24) = true by simp; omega, Bool.true_and]
  have HE := Lib.hid hE
  clear hE
  by_cases h3 : (48 : Int) ≤ ((s[0]).toNat : Int) ∧ ((s[0]).toNat : Int) ≤ (57 : Int)
  · obtain rfl : false = b := by rw [← HB.out, HE.out, decide_eq_true h3]; rfl
    obtain ⟨h3, h4⟩ := h3
    go_enter Try.func74, Try.ntmps74
    go_wp2_with fail
    go_ret
    exact ⟨rfl, rfl⟩
  have HE2 : Hid (b = s.data.toList.all (fun c => okC (c.toNat : Int))) := Lib.hid (by rw [← HB.out, HE.out, decide_eq_false h3]; rfl)
  clear HE HB
  have h5 : ((s[0]).toNat : Int) < 48 ∨ 57 < ((s[0]).toNat : Int) := by omega
  clear h3
  rcases h5 with h5 | h5
  all_goals
    go_enter Try.func74, Try.ntmps74
    go_wp2_with fail
    clear h5
    go_loop [25] (fun v => ∃ k : Nat, k ≤ s.size ∧ v = .int .i64 k ∧ (∀ j (hj : j < s.size), j < k → okC ((s[j]).toNat : Int) = true)) (fun v => s.size - (intOf v).toNat)
    case atStart => exact ⟨0, Nat.zero_le _, rfl, fun _ _ h => absurd h (by omega)⟩
    case round =>
      obtain ⟨k, hk, rfl, hlt⟩ := hrel
      have HLt := Lib.hid hlt
      clear hlt
      by_cases hk2 : k < s.size
      · have hw : IntKind.i64.wrap ((k : Int) + 1) = ((k + 1 : Nat) : Int) := by rw [IntKind.wrap_i64]; omega
        have hkI : (k : Int) < (s.size : Int) := by omega
        obtain ⟨c, hc⟩ : ∃ c : Int, ((s[k]).toNat : Int) = c := ⟨_, rfl⟩
        have HC := Lib.hid hc
        by_cases hok : okC c = true
        · have HLt2 : Hid (∀ j (hj : j < s.size), j < k + 1 → okC ((s[j]).toNat : Int) = true) := Lib.hid (fun j hj hjk => by
            rcases Nat.lt_or_eq_of_le (Nat.le_of_lt_succ hjk) with h | rfl
            · exact HLt.out j hj h
            · rw [HC.out]; exact hok)
          have hok2 : (97 ≤ c ∧ c ≤ 122) ∨ (48 ≤ c ∧ c ≤ 57) ∨ c = 95 := by unfold okC at hok; simpa [or_assoc] using hok
          clear hok HC
          subst hc
          rcases hok2 with ⟨q1, q2⟩ | ⟨q1, q2⟩ | q1
          · go_wp2_with fail
            go_round
            case rel => exact ⟨k + 1, by omega, rfl, HLt2.out⟩
            case measure => simp [intOf]; omega
          · have q3 : ¬ (97 : Int) ≤ ((s[k]).toNat : Int) := by omega
            go_wp2_with fail
            go_round
            case rel => exact ⟨k + 1, by omega, rfl, HLt2.out⟩
            case measure => simp [intOf]; omega
          · have q3 : ¬ (97 : Int) ≤ ((s[k]).toNat : Int) := by omega
            have q4 : (48 : Int) ≤ ((s[k]).toNat : Int) := by omega
            have q5 : ¬ ((s[k]).toNat : Int) ≤ 57 := by omega
            go_wp2_with fail
            go_round
            case rel => exact ⟨k + 1, by omega, rfl, HLt2.out⟩
            case measure => simp [intOf]; omega
        · obtain rfl : b = false := by
            rw [HE2.out]
            refine List.all_eq_false.2 ⟨s[k], get_mem s k hk2, ?_⟩
            rw [hc]; exact hok
          have hok2 : c < 48 ∨ (57 < c ∧ c < 97 ∧ c ≠ 95) ∨ 122 < c := by
            unfold okC at hok
            simp only [Bool.or_eq_true, decide_eq_true_eq] at hok
            omega
          clear hok HC HE2 HLt
          subst hc
          rcases hok2 with q1 | ⟨q1, q2, q3⟩ | q1
          · have q3 : ¬ (97 : Int) ≤ ((s[k]).toNat : Int) := by omega
            have q4 : ¬ (48 : Int) ≤ ((s[k]).toNat : Int) := by omega
            have q5 : (((s[k]).toNat : Int) == 95) = false := by simp; omega
            go_wp2_with fail
            go_ret
            exact ⟨rfl, rfl⟩
          · have q3 : ¬ (97 : Int) ≤ ((s[k]).toNat : Int) := by omega
            have q4 : (48 : Int) ≤ ((s[k]).toNat : Int) := by omega
            have q6 : ¬ ((s[k]).toNat : Int) ≤ 57 := by omega
            have q5 : (((s[k]).toNat : Int) == 95) = false := by simp; omega
            go_wp2_with fail
            go_ret
            exact ⟨rfl, rfl⟩
          · have q3 : (97 : Int) ≤ ((s[k]).toNat : Int) := by omega
            have q7 : ¬ ((s[k]).toNat : Int) ≤ 122 := by omega
            have q4 : (48 : Int) ≤ ((s[k]).toNat : Int) := by omega
            have q6 : ¬ ((s[k]).toNat : Int) ≤ 57 := by omega
            have q5 : (((s[k]).toNat : Int) == 95) = false := by simp; omega
            go_wp2_with fail
            go_ret
            exact ⟨rfl, rfl⟩
      · obtain rfl : b = true := by
          rw [HE2.out]
          refine List.all_eq_true.2 fun c hc => ?_
          obtain ⟨j, hj, rfl⟩ := mem_get hc
          exact HLt.out j hj (by omega)
        have hkI : ¬ (k : Int) < (s.size : Int) := by omega
        go_wp2_with fail
        go_ret
        exact ⟨rfl, rfl⟩
/-! ### Labels in memory -/
/-- A label: its name, its text. -/
abbrev Lb := ByteArray × ByteArray
def lbF : List Lb → List Value
  | [] => []
  | x :: r => .string x.1 :: .string x.2 :: lbF r
theorem lbF_len : ∀ L : List Lb, (lbF L).length = L.length * 2
  | [] => rfl
  | x :: r => by simp [lbF, lbF_len r]; omega
theorem lbF_get : ∀ (L : List Lb) (k : Nat) (h : k < L.length), (lbF L)[k * 2]? = some (.string L[k].1) ∧ (lbF L)[k * 2 + 1]? = some (.string L[k].2)
  | x :: r, 0, _ => ⟨rfl, rfl⟩
  | x :: r, k + 1, h => by
    have := lbF_get r k (by simpa using h)
    rw [show (k + 1) * 2 = k * 2 + 1 + 1 by omega, show k * 2 + 1 + 1 + 1 = (k * 2 + 1) + 1 + 1 by omega]
    simpa [lbF] using this
theorem lbF_one : ∀ (L : List Lb), ∀ u ∈ lbF L, u.oneCell' = true
  | [], _, h => by cases h
  | x :: r, u, h => by
    simp only [lbF, List.mem_cons] at h
    rcases h with rfl | rfl | h
    · rfl
    · rfl
    · exact lbF_one r u h
/-- The slice at A reads as these labels. -/
def RdLb (w : World) (A : Option Addr) (L : List Lb) : Prop := Reads w w.heap.size 2 A L.length (lbF L)
theorem RdLb.below {w w' : World} {A : Option Addr} {L : List Lb} (h : RdLb w A L) (hb : Below w.heap.size w w') : RdLb w' A L := Reads.more (Reads.below h hb) hb.size
/-- A cell of a row, in the walk's spelling. -/
theorem Reads.cell0 {w : World} {B size n : Nat} {A : Option Addr} {xs : List Value} (h : Reads w B size A n xs) {ad : Addr} (hA : A = some ad) {k : Nat} (h0 : 0 < n) {u : Value} (hu : xs[k]? = some u) : w.cell? (ad.add k) = some u := by
  obtain ⟨ad', e, _, hc⟩ := h.2 h0
  rw [hA] at e; cases e
  exact hc k u hu
theorem Reads.cellI {w : World} {B size n : Nat} {A : Option Addr} {xs : List Value} (h : Reads w B size A n xs) {ad : Addr} (hA : A = some ad) {k i : Nat} (h0 : 0 < n) {u : Value} (hu : xs[k + i]? = some u) (hi : 0 < i) : w.cell? { block := (ad.add k).block, off := (ad.add k).off + i } = some u := by
  have := h.cell0 hA h0 hu
  rw [← add_of_add] at this
  rw [← this]
  have e : ∀ a : Addr, a.add i = { block := a.block, off := a.off + i } := fun a => by unfold Addr.add; rw [if_neg (by omega)]
  rw [e]
theorem RdLb.at_ {w : World} {A : Option Addr} {L : List Lb} (h : RdLb w A L) {k : Nat} (hk : k < L.length) : ∃ ad, A = some ad ∧ ad.block < w.heap.size ∧ w.cell? (ad.add (k * 2)) = some (.string L[k].1) ∧ w.cell? { block := (ad.add (k * 2)).block, off := (ad.add (k * 2)).off + 1 } = some (.string L[k].2) := by
  obtain ⟨ad, e, hb, _⟩ := h.2 (by omega)
  obtain ⟨g0, g1⟩ := lbF_get L k hk
  exact ⟨ad, e, hb, h.cell0 e (by omega) g0, h.cellI e (by omega) g1 (by omega)⟩
theorem RdLb.some_ {w : World} {a : Addr} {L : List Lb} (h : RdLb w (some a) L) {k : Nat} (hk : k < L.length) : w.cell? (a.add (k * 2)) = some (.string L[k].1) ∧ w.cell? { block := (a.add (k * 2)).block, off := (a.add (k * 2)).off + 1 } = some (.string L[k].2) := by
  obtain ⟨ad, e, _, h1, h2⟩ := h.at_ hk
  cases e; exact ⟨h1, h2⟩
/-! ### Whether labels may be -/
def labOk : ByteArray → List Lb → Bool
  | _, [] => true
  | last, x :: r => nameB x.1 && !(Op.bytesLess x.1.toList last.toList || x.1.toList == last.toList) && !x.2.toList.isEmpty && decide (x.2.size ≤ 64) && labOk x.1 r
/-- What label.Check tells. -/
def labE (L : List Lb) : Int := if 8 < L.length then 3 else if labOk (ByteArray.mk #[]) L = true then 0 else 2
set_option maxHeartbeats 2000000 in
set_option maxRecDepth 100000 in
theorem lcheck_any (A : Option Addr) (c : Nat) (L : List Lb) (w : World) (h : RdLb w A L) : Calls Try.prog 75 #[.slice A L.length c] w fun e w' => e = .returned (.int .i64 (labE L)) ∧ Below w.heap.size w w' := by
  obtain ⟨N, hN⟩ : ∃ N, L.length = N := ⟨_, rfl⟩
  have HN := Lib.hid hN
  have H := Lib.hid h
  unfold labE
  rw [hN]
  obtain ⟨x, hx⟩ : ∃ x : Int, (if labOk (ByteArray.mk #[]) L = true then 0 else 2) = x := ⟨_, rfl⟩
  rw [hx]
  have HX := Lib.hid hx
  clear hN h hx
  by_cases h8 : 8 < N
  · rw [if_pos h8]
    have h9 : (8 : Int) < (N : Int) := by omega
    go_enter Try.func75, Try.ntmps75
    go_wp2_with fail
    go_ret
    exact ⟨rfl, Below.refl _ _⟩
  rw [if_neg h8]
  have h9 : ¬ (8 : Int) < (N : Int) := by omega
  go_enter Try.func75, Try.ntmps75
  go_wp2_with fail
  clear h9
  go_loopw [3, 11] (fun s v wr => ∃ (k : Nat) (last : ByteArray), k ≤ N ∧ v = .int .i64 k ∧ s = .string last ∧ Hid (labOk (ByteArray.mk #[]) L = labOk last (L.drop k)) ∧ Hid (Below w.heap.size w wr)) (fun _ v _ => N - (intOf v).toNat)
  case atStart => exact ⟨0, ByteArray.mk #[], Nat.zero_le _, rfl, rfl, Lib.hid rfl, Lib.hid (Below.refl _ _)⟩
  case round =>
    obtain ⟨k, last, hk, rfl, rfl, HL, HB⟩ := hrel
    by_cases h0 : k < N
    · have hkP : k < L.length := by rw [HN.out]; exact h0
      obtain ⟨ad, rfl, hlt, c0, c1⟩ := (H.out.below HB.out).at_ hkP
      have hw : IntKind.i64.wrap ((k : Int) + 1) = ((k + 1 : Nat) : Int) := by rw [IntKind.wrap_i64]; omega
      have hkI : (k : Int) < (N : Int) := by omega
      have hdr : labOk last (L.drop k) = labOk last (L[k] :: L.drop (k + 1)) := by rw [List.drop_eq_getElem_cons hkP]
      obtain ⟨⟨n, t⟩, hnt⟩ : ∃ x, L[k] = x := ⟨_, rfl⟩
      rw [hnt] at c0 c1 hdr
      simp only at c0 c1
      obtain ⟨b1, hb1⟩ : ∃ b, nameB n = b := ⟨_, rfl⟩
      obtain ⟨b2, hb2⟩ : ∃ b, (Op.bytesLess n.toList last.toList || n.toList == last.toList) = b := ⟨_, rfl⟩
      obtain ⟨b3, hb3⟩ : ∃ b, t.toList.isEmpty = b := ⟨_, rfl⟩
      have hdr2 : labOk (ByteArray.mk #[]) L = (b1 && !b2 && !b3 && decide (t.size ≤ 64) && labOk n (L.drop (k + 1))) := by
        rw [HL.out, hdr]; simp only [labOk]; rw [hb1, hb2, hb3]
      have HD := Lib.hid hdr2
      have CN := Lib.hid (fun W => name_any n W)
      rw [hb1] at CN
      have HB1 := Lib.hid (below_alloc HB.out (.cells #[.string n, .string t] 90))
      have HX1 := newB wr (.cells #[.string n, .string t] 90)
      have d0 := cellAt (o := 0) HX1 rfl
      have d1 := cellAt (o := 1) HX1 rfl
      clear hdr hdr2 hnt hkP hb1 HX1
      cases b1
      case false =>
        obtain rfl : 2 = x := by rw [← HX.out, HD.out]; rfl
        clear hb2 hb3
        go_wp2_with (fail)
        refine (CN.out _).mono ?_
        rintro e w1 ⟨rfl, rfl⟩
        go_wp2_with fail
        go_ret
        exact ⟨rfl, HB1.out⟩
      case true =>
        cases b2
        case true =>
          obtain rfl : 2 = x := by rw [← HX.out, HD.out]; rfl
          clear hb3
          go_wp2_with (fail)
          refine (CN.out _).mono ?_
          rintro e w1 ⟨rfl, rfl⟩
          go_wp2_with fail
          go_ret
          exact ⟨rfl, HB1.out⟩
        case false =>
          cases b3
          case true =>
            obtain rfl : 2 = x := by rw [← HX.out, HD.out]; rfl
            go_wp2_with (fail)
            refine (CN.out _).mono ?_
            rintro e w1 ⟨rfl, rfl⟩
            go_wp2_with fail
            go_ret
            exact ⟨rfl, HB1.out⟩
          case false =>
            by_cases h6 : t.size ≤ 64
            · have h7 : ¬ (64 : Int) < (t.size : Int) := by omega
              go_wp2_with (fail)
              refine (CN.out _).mono ?_
              rintro e w1 ⟨rfl, rfl⟩
              go_wp2_with fail
              go_roundw
              case rel => exact ⟨k + 1, n, by omega, rfl, rfl, Lib.hid (by rw [HD.out, decide_eq_true h6]; rfl), HB1⟩
              case measure => simp [intOf]; omega
            · have h7 : (64 : Int) < (t.size : Int) := by omega
              obtain rfl : 2 = x := by rw [← HX.out, HD.out, decide_eq_false h6]; rfl
              go_wp2_with (fail)
              refine (CN.out _).mono ?_
              rintro e w1 ⟨rfl, rfl⟩
              go_wp2_with fail
              go_ret
              exact ⟨rfl, HB1.out⟩
    · have hkI : ¬ (k : Int) < (N : Int) := by omega
      obtain rfl : 0 = x := by rw [← HX.out, HL.out, List.drop_eq_nil_of_le (by rw [HN.out]; omega)]; rfl
      go_wp2_with fail
      go_ret
      exact ⟨rfl, HB.out⟩
theorem lcheck_n {A : Option Addr} {c n : Nat} {L : List Lb} {w : World} (hn : L.length = n) (h : RdLb w A L) : Calls Try.prog 75 #[.slice A n c] w fun e w' => e = .returned (.int .i64 (labE L)) ∧ Below w.heap.size w w' := by
  subst hn; exact lcheck_any A c L w h
/-- What sample.CheckSeries tells. -/
def serE (m : ByteArray) (L : List Lb) : Int := if nameB m = true then labE L else 2
set_option maxRecDepth 100000 in
theorem cser_any {m : ByteArray} {A : Option Addr} {c n : Nat} {L : List Lb} {w : World} (hn : L.length = n) (h : RdLb w A L) : Calls Try.prog 52 #[.agg #[.string m, .slice A n c]] w fun e w' => e = .returned (.int .i64 (serE m L)) ∧ Below w.heap.size w w' := by
  have HB := Lib.hid (below_alloc (Below.refl w.heap.size w) (.cells #[.string m, .slice A n c] 32))
  have HX := newB w (.cells #[.string m, .slice A n c] 32)
  have CL := Lib.hid (lcheck_n (c := c) hn (h.below HB.out))
  have d0 := cellAt (o := 0) HX rfl
  have d1 := cellAt (o := 1) HX rfl
  have CN := Lib.hid (fun W => name_any m W)
  unfold serE
  obtain ⟨b, hb⟩ : ∃ b, nameB m = b := ⟨_, rfl⟩
  rw [hb] at CN ⊢
  obtain ⟨x, hx⟩ : ∃ x, labE L = x := ⟨_, rfl⟩
  rw [hx] at CL ⊢
  clear hn h HX hb hx
  cases b
  · go_enter Try.func52, Try.ntmps52
    go_wp2_with fail
    refine (CN.out _).mono ?_
    rintro e w1 ⟨rfl, rfl⟩
    go_wp2_with fail
    go_ret
    exact ⟨rfl, HB.out⟩
  · go_enter Try.func52, Try.ntmps52
    go_wp2_with fail
    refine (CN.out _).mono ?_
    rintro e w1 ⟨rfl, rfl⟩
    go_wp2_with fail
    refine CL.out.mono ?_
    rintro e w1 ⟨rfl, hb1⟩
    have HB1 := Lib.hid (HB.out.trans (hb1.mono HB.out.size))
    clear hb1
    go_wp2_with fail
    go_ret
    exact ⟨rfl, HB1.out⟩
/-- What sample.Check tells. -/
def smpE (m : ByteArray) (L : List Lb) (t : Int) : Int := if serE m L = 0 then (if t < 1 ∨ 1099511627776 < t then 2 else 0) else serE m L
set_option maxRecDepth 100000 in
theorem csmp_any {m : ByteArray} {A : Option Addr} {c n : Nat} {L : List Lb} {t k : Int} {w : World} (hn : L.length = n) (h : RdLb w A L) : Calls Try.prog 38 #[.agg #[.string m, .slice A n c, .int .i64 t, .int .i64 k]] w fun e w' => e = .returned (.int .i64 (smpE m L t)) ∧ Below w.heap.size w w' := by
  have HB := Lib.hid (below_alloc (Below.refl w.heap.size w) (.cells #[.string m, .slice A n c, .int .i64 t, .int .i64 k] 34))
  have HX := Lib.hid (newB w (.cells #[.string m, .slice A n c, .int .i64 t, .int .i64 k] 34))
  have CL := Lib.hid (cser_any (m := m) (c := c) hn (h.below HB.out))
  have d0 := cellAt (o := 0) HX.out rfl
  have d1 := cellAt (o := 1) HX.out rfl
  have d2 := cellAt (o := 2) HX.out rfl
  unfold smpE
  obtain ⟨x, hx⟩ : ∃ x, serE m L = x := ⟨_, rfl⟩
  rw [hx] at CL ⊢
  obtain ⟨y, hy⟩ : ∃ y : Int, (if x = 0 then (if t < 1 ∨ 1099511627776 < t then 2 else 0) else x) = y := ⟨_, rfl⟩
  rw [hy]
  have HY := Lib.hid hy
  clear hn h hx hy
  go_enter Try.func38, Try.ntmps38
  go_wp2_with fail
  refine CL.out.mono ?_
  rintro e w1 ⟨rfl, hb1⟩
  have HB1 := Lib.hid (HB.out.trans (hb1.mono HB.out.size))
  have HX1 := Lib.hid (keepB HX.out hb1)
  clear hb1 d0 d1 d2
  have d2 := cellAt (o := 2) HX1.out rfl
  by_cases h0 : x = 0
  · subst h0
    have hy := HY.out
    rw [if_pos rfl] at hy
    by_cases h1 : t < 1
    · obtain rfl : 2 = y := by rw [← hy, if_pos (.inl h1)]
      clear hy HY
      go_wp2_with fail
      go_ret
      exact ⟨rfl, HB1.out⟩
    · by_cases h2 : 1099511627776 < t
      · obtain rfl : 2 = y := by rw [← hy, if_pos (.inr h2)]
        clear hy HY
        go_wp2_with fail
        go_ret
        exact ⟨rfl, HB1.out⟩
      · obtain rfl : 0 = y := by rw [← hy, if_neg (by omega)]
        clear hy HY
        go_wp2_with fail
        go_ret
        exact ⟨rfl, HB1.out⟩
  · obtain rfl : x = y := by rw [← HY.out, if_neg h0]
    have hx0 : (x == 0) = false := by simpa using h0
    go_wp2_with fail
    go_ret
    exact ⟨rfl, HB1.out⟩
end Go.Proofs.Ytangcgfchalnaaa
