/- A buffer's Range. -/
import Derived.Test.YtfblmmnofhkkaaaBfJ
import Derived.Test.YtfblmmnofhkkaaaStar
namespace Go.Proofs.Ytfblmmnofhkkaaa
open Go.RowKit Go.Shelf
attribute [local go_sem] Oper.semAt_some
theorem range_all {t u : Int} {P : List Pt} (h : ∀ q ∈ aboveP t P, q.1 ≤ u) : rangeP t u P = aboveP t P := by
  unfold rangeP aboveP at *
  rw [show P.filter (fun q => decide (t < q.1) && decide (q.1 ≤ u)) = (P.filter (fun q => decide (t < q.1))).filter (fun q => decide (q.1 ≤ u)) from by rw [List.filter_filter]; congr 1; funext q; exact Bool.and_comm _ _]
  exact List.filter_eq_self.2 (fun q hq => by simpa using h q hq)
theorem range_cut {t u : Int} {P pre : List Pt} {x : Pt} (hr : Rise P) (hp : pre ++ [x] <+: aboveP t P) (h1 : ∀ q ∈ pre, q.1 ≤ u) (h2 : u < x.1) : rangeP t u P = pre := by
  obtain ⟨s, hs⟩ := hp
  have hra : Rise (aboveP t P) := by unfold Rise aboveP at *; exact hr.filter _
  rw [← hs] at hra
  unfold Rise at hra
  rw [List.append_assoc, List.pairwise_append] at hra
  have h3 : ∀ q ∈ [x] ++ s, u < q.1 := by
    have h4 := hra.2.1
    rw [List.singleton_append, List.pairwise_cons] at h4
    intro q hq
    rcases List.mem_cons.1 hq with rfl | hq
    · exact h2
    · have := h4.1 q hq; omega
  unfold rangeP
  rw [show P.filter (fun q => decide (t < q.1) && decide (q.1 ≤ u)) = (aboveP t P).filter (fun q => decide (q.1 ≤ u)) from by unfold aboveP; rw [List.filter_filter]; congr 1; funext q; exact Bool.and_comm _ _]
  rw [← hs, List.append_assoc, List.filter_append, filter_all (fun q hq => by simpa using h1 q hq), filter_no (fun q hq => by have := h3 q hq; simp; omega), List.append_nil]
/-- A row of points of the call's own. -/
abbrev PtRow (w W' : World) (v : Value) (L : List Pt) : Prop := W'.ownsRow w.heap.size 45 3 v L.length (pcs L)
theorem KpB.trans {n0 Bf : Nat} {t : Int} {A B C : World} (h : KpB n0 Bf t A B) (k : KpB n0 Bf t B C) : KpB n0 Bf t A C := ⟨h.below.trans k.below, fun hb => k.box (h.box hb)⟩
theorem KpB.refl (n0 Bf : Nat) (t : Int) (W : World) : KpB n0 Bf t W W := ⟨Below.refl _ _, fun h => h⟩
theorem KpB.put {n0 Bf : Nat} {t : Int} {w : World} (hn : n0 ≤ w.heap.size) (W : World) (l : Nat) (o o' : Obj) (hl : w.heap.size ≤ l) (h : W.heap[l]? = some o) (ho : o.isCells = false) (hw : o.isWalk = false) : KpB n0 Bf t W (W.putObj l o') :=
  ⟨belowK_b hn W l o o' hl h ho hw, fun hb => by
    have hne : Bf ≠ l := fun e => by rw [e, h] at hb; cases hb; cases ho
    exact ((grownBy_putObj' W l o').block Bf (only_lt hb) (fun e => hne (by cases e; rfl))).trans hb⟩
theorem KpB.alloc {n0 Bf : Nat} {t : Int} {W : World} (o : Obj) (hn : n0 ≤ W.heap.size) : KpB n0 Bf t W (W.alloc o) := ⟨(Below.refl _ _).alloc hn _, fun hb => keepA hb o⟩
theorem KpB.appended {n n0 Bf B : Nat} {t : Int} {W w1 : World} {v v' : Value} {k : Nat} {xs : List Value} {tmp : Obj} (hv : Boxed W B 39 v) (hrow : W.ownsRow n 45 3 v k xs) (hgrow : (W.alloc tmp).grownBy w1 v.ownBlock)
    (hb : Below n0 W (w1.setCell ⟨B, 0, none⟩ v')) : KpB n0 Bf t W (w1.setCell ⟨B, 0, none⟩ v') := by
  refine ⟨hb, fun hf => ?_⟩
  have h1 := keepA hf tmp
  have h2 := (hgrow.block Bf (only_lt h1) (fun e' => by
    rcases hrow.2 with ⟨rfl, _⟩ | ⟨g, cap, cur, rfl, _, hgb, _⟩
    · simp [Value.ownBlock] at e'
    · obtain rfl : Bf = g := by simpa [Value.ownBlock] using e'
      rw [hf] at hgb; cases hgb)).trans h1
  refine (Below.heap_setCell _ ⟨B, 0, none⟩ _ Bf (fun e' => ?_)).trans h2
  have e2 : Bf = B := e'
  subst e2
  rw [hv] at hf
  cases hf
/-- A box that holds the points that are gathered. -/
abbrev Gath (w W : World) (B : Nat) (L : List Pt) : Prop := ∃ v, Boxed W B 39 v ∧ W.ownsRow w.heap.size 45 3 v L.length (pcs L) ∧ True
theorem gath_own (w : World) (B : Nat) : Own (fun (L : List Pt) W => Gath w W B L) := holdsRow_own w.heap.size B 39 45 3 (fun L => L.length) pcs (fun _ _ => True)
theorem cell_pt_new (w : World) (x : Pt) : ∀ j u, (pc x)[j]? = some u → (w.alloc (.cells #[.int .i64 x.1, .int .i64 x.2, .bool false] 45)).cell? ((⟨w.heap.size, 0, none⟩ : Addr).add j) = some u := by
  intro j u hj
  have h := newB w (.cells #[.int .i64 x.1, .int .i64 x.2, .bool false] 45)
  match j, hj with
  | 0, hj => simp [pc] at hj; subst hj; exact cellAt (o := 0) h rfl
  | 1, hj => simp [pc] at hj; subst hj; exact cellAt (o := 1) h rfl
  | 2, hj => simp [pc] at hj; subst hj; exact cellAt (o := 2) h rfl
theorem pcs_snoc (L : List Pt) (x : Pt) : pcs (L ++ [x]) = pcs L ++ pc x := by rw [pcs_append]; simp [pcs]
/-- A point in its box. -/
def PtBox (W : World) (B : Nat) (p : Pt) : Prop := W.heap[B]? = some (.cells #[.int .i64 p.1, .int .i64 p.2, .bool false] 45 (0, 0))
theorem ptBox_own (B : Nat) : Own (fun (s : Pt) W => PtBox W B s) := fun s X Y row hs hg hrow =>
  (hg.block B (Array.getElem?_eq_some_iff.1 hs).1 (fun e' => by obtain ⟨o, ho, hc⟩ := hrow B e'.symm; rw [show X.heap[B]? = _ from hs] at ho; cases ho; cases hc)).trans hs
/-- What Range keeps from round to round. -/
structure RgI (w W : World) (n Bu Bo : Nat) (u : Int) (L : List Pt) : Prop where
  box : Boxed W Bu 2 (.int .i64 u)
  gath : ∃ v, Boxed W Bo 39 v ∧ W.ownsRow n 45 3 v L.length (pcs L) ∧ True
  below : Below n w W
theorem RgI.own {w : World} {n Bu Bo B : Nat} {u : Int} {β : Type} (f : β → List Pt) (hn : n ≤ w.heap.size) (hB : n ≤ B) : OwnFrom B (fun (L : β) W => RgI w W n Bu Bo u (f L)) := fun s X Y row hs hg hr =>
  ⟨(boxed_own (β := Unit) Bu 2 (fun _ => .int .i64 u)).from B () X Y row hs.box hg hr,
   (holdsRow_own n Bo 39 45 3 (fun L => L.length) pcs (fun _ _ => True)).from B (f s) X Y row hs.gath hg hr,
   ownFrom_below (β := Unit) hn hB () X Y row hs.below hg hr⟩
/-- What AppendSeq keeps from round to round. -/
structure RgK (w W : World) (n Bo : Nat) (L : List Pt) : Prop where
  gath : ∃ v, Boxed W Bo 39 v ∧ W.ownsRow n 45 3 v L.length (pcs L) ∧ True
  below : Below n w W
theorem RgK.own {w : World} {n Bo B : Nat} {β : Type} (f : β → List Pt) (hn : n ≤ w.heap.size) (hB : n ≤ B) : OwnFrom B (fun (L : β) W => RgK w W n Bo (f L)) := fun s X Y row hs hg hr =>
  ⟨(holdsRow_own n Bo 39 45 3 (fun L => L.length) pcs (fun _ _ => True)).from B (f s) X Y row hs.gath hg hr,
   ownFrom_below (β := Unit) hn hB () X Y row hs.below hg hr⟩
structure RgJ (w W : World) (n Bu Bo : Nat) (u : Int) (L : List Pt) : Prop where
  i : RgI w W n Bu Bo u L
  le : ∀ x ∈ L, x.1 ≤ u
def RgX (w W : World) (n Bu Bo : Nat) (u : Int) (c : Code) (L : List Pt) : Prop := ∃ L0 x, c = .exit 0 ∧ L = L0 ++ [x] ∧ u < x.1 ∧ RgJ w W n Bu Bo u L0
set_option maxRecDepth 100000 in
set_option maxHeartbeats 4000000 in
theorem rangeS_any {w : World} {L P : List Pt} (q : Option Addr) (t u : Int) (hr : Rise P) (hL : L = aboveP t P) (hP : P.length ≤ 65536)
    (hseq : ∀ W : World, Below w.heap.size w W → W.heap[w.heap.size + 2]? = some (.cells #[.pointer q] 24 (0, 0)) → W.heap[w.heap.size + 3]? = some (.cells #[.int .i64 t] 2 (0, 0)) →
      SeqP 47 #[.pointer (some ⟨w.heap.size + 2, 0, none⟩), .pointer (some ⟨w.heap.size + 3, 0, none⟩)] L w.heap.size (w.heap.size + 3) t W) :
    Calls Try.prog 19 #[.pointer q, .int .i64 t, .int .i64 u] w fun e W' => ∃ v, e = .returned v ∧ PtRow w W' v (rangeP t u P) ∧ Below w.heap.size w W' := by
  obtain ⟨i0, hi, hz0, hz1, hz2⟩ := info_parts pInfo
  have CP := Lib.hid (fun W => points_fn q t W)
  have HLP : L.length ≤ 65536 := by rw [hL]; exact Nat.le_trans (List.length_filter_le _ _) hP
  refine (callsIn_wide (n := 9)).1 ?_
  refine callsIn_of_wp_marks Try.func19 rfl trivial ?_ rfl
  simp only [Try.ntmps19, List.size_toArray, List.length_cons, List.length_nil, Nat.reduceAdd, Nat.reduceSub, Array.replicate_succ, Array.replicate_zero, List.push_toArray, List.append_toArray, List.nil_append, List.cons_append]
  gi_wp2_with (refine ⟨trivial, ?_⟩; refine (callsIn_wide.2 (CP.out _)).mono ?_; rintro e w1 ⟨rfl, rfl⟩)
  have b1 := newB w (.cells #[.int .i64 u] 2)
  have b2 := newB (w.alloc (.cells #[.int .i64 u] 2)) (.cells #[.slice none 0 0] 39)
  have b3 := newB ((w.alloc (.cells #[.int .i64 u] 2)).alloc (.cells #[.slice none 0 0] 39)) (.cells #[.pointer q] 24)
  have b4 := newB (((w.alloc (.cells #[.int .i64 u] 2)).alloc (.cells #[.slice none 0 0] 39)).alloc (.cells #[.pointer q] 24)) (.cells #[.int .i64 t] 2)
  replace b1 := keepA (keepA (keepA b1 (.cells #[.slice none 0 0] 39)) (.cells #[.pointer q] 24)) (.cells #[.int .i64 t] 2)
  replace b2 := keepA (keepA b2 (.cells #[.pointer q] 24)) (.cells #[.int .i64 t] 2)
  replace b3 := keepA b3 (.cells #[.int .i64 t] 2)
  have HB0 := below_alloc (below_alloc (below_alloc (below_alloc (Below.refl w.heap.size w) (.cells #[.int .i64 u] 2)) (.cells #[.slice none 0 0] 39)) (.cells #[.pointer q] 24)) (.cells #[.int .i64 t] 2)
  have hsz : ((((w.alloc (.cells #[.int .i64 u] 2)).alloc (.cells #[.slice none 0 0] 39)).alloc (.cells #[.pointer q] 24)).alloc (.cells #[.int .i64 t] 2)).heap.size = w.heap.size + 4 := by simp only [alloc_size]
  simp only [alloc_size] at b2 b3 b4
  obtain ⟨W0, hW0⟩ : ∃ W0, (((w.alloc (.cells #[.int .i64 u] 2)).alloc (.cells #[.slice none 0 0] 39)).alloc (.cells #[.pointer q] 24)).alloc (.cells #[.int .i64 t] 2) = W0 := ⟨_, rfl⟩
  rw [hW0] at b1 b2 b3 b4 HB0 hsz ⊢
  clear hW0
  have HS := hseq W0 HB0 b3 b4
  obtain ⟨n, hn⟩ : ∃ n, w.heap.size = n := ⟨_, rfl⟩
  rw [hn] at b1 b2 b3 b4 HB0 hsz HS ⊢
  clear hseq
  refine wpIn_rangeFunc_ownH rfl (by decide) (gf := 47) (lb := #[.pointer (some ⟨n + 2, 0, none⟩), .pointer (some ⟨n + 3, 0, none⟩)]) rfl trivial (enters_of Try.func47 (by kernel_rfl) rfl)
    HS (fun h k => h.trans k) (fun W l o o' hl h ho hw => KpB.put (w := W0) (by omega) W l o o' hl h ho hw) (Below.refl _ _) (fun _ => rfl)
    (fun pre W => RgJ w W n n (n + 1) u pre) (fun c pre W => RgX w W n n (n + 1) u c pre)
    (fun s X Y row hs hg hr => ⟨RgI.own id (by omega) (by omega) s X Y row hs.i hg hr, hs.le⟩)
    (fun c s X Y row hs hg hr => by obtain ⟨p0, x, h1, h2, h3, h4⟩ := hs; exact ⟨p0, x, h1, h2, h3, RgI.own id (by omega) (by omega) p0 X Y row h4.i hg hr, h4.le⟩)
    ⟨⟨b1, ⟨_, b2, World.ownsRow_nil _ _ _ _, trivial⟩, HB0⟩, by simp⟩
    (fun x a' W => ∃ Bx, n + 1 < Bx ∧ PtBox W Bx x ∧ a' = { tmps := #[.pointer q, .int .i64 t, .int .i64 u, undef, undef, .pointer (some ⟨n, 0, none⟩), .slice none 0 0, .pointer (some ⟨n + 1, 0, none⟩), .pointer (some ⟨Bx, 0, none⟩), .pointer q, .int .i64 t,
      .func (.func 47) #[] #[.pointer (some ⟨n + 2, 0, none⟩), .pointer (some ⟨n + 3, 0, none⟩)], bpv x, undef, undef, undef, undef, undef, undef, undef, undef, undef], defers := [] })
    (fun x a' _ X Y row hs hg hr => by obtain ⟨Bx, h1, h2, h3⟩ := hs; exact ⟨Bx, h1, ptBox_own Bx x X Y row h2 hg (fun r e => (hr r e).2), h3⟩)
    ?assign ?body ?done ?stop
  case assign =>
    rintro l pre x W K ⟨HI, HL⟩ hK
    have hs : n ≤ W.heap.size := hn ▸ HI.below.size
    have hlt := HI.box.lt
    have hlt2 : n + 1 < W.heap.size := by obtain ⟨v, hv, _⟩ := HI.gath; exact hv.lt
    gi_wp2
    exact hK _ _ ((KeepsOthers.alloc _ _).from _) (KpB.alloc _ hs) ⟨⟨HI.box.alloc _, by obtain ⟨v, h1, h2, h3⟩ := HI.gath; exact ⟨v, h1.alloc _, h2.alloc _, h3⟩, HI.below.alloc hs _⟩, HL⟩ ⟨W.heap.size, hlt2, newB W _, rfl⟩
  case body =>
    rintro l pre x a' W hl hlW ⟨HI, HL⟩ ⟨Bx, hBx, bX, rfl⟩ hlt
    obtain ⟨v, hv, hrow, _⟩ := HI.gath
    have hc := hv.cell
    have hu := HI.box.cell
    have x0 := cellAt (o := 0) (show W.heap[Bx]? = _ from bX) rfl
    have x1 := cellAt (o := 1) (show W.heap[Bx]? = _ from bX) rfl
    have x2 := cellAt (o := 2) (show W.heap[Bx]? = _ from bX) rfl
    have hsW : n ≤ W.heap.size := hn ▸ HI.below.size
    by_cases e1 : u < x.1
    · gi_wp2
      exact ⟨KeepsFrom.refl _ _, pre, x, rfl, rfl, e1, HI, HL⟩
    · gi_wp2_with (gi_at_builtin; refine wpListIn_append_own _ rfl _ _ 39 rfl n 45 i0 (.agg #[.int .i64 0, .int .i64 0, .bool false]) 3 24 Try.underlying39 hi hz0 hz1 hz2 rfl (by decide) _ _ _ rfl (hrow.alloc _) ⟨W.heap.size, 0, none⟩ 1 1 (pc x) rfl rfl (cell_pt_new _ _) (by simp [pc, Value.oneCell']) (by unfold maxLen; omega) (by omega) (by simp; omega) ?_; intro v' w1 hown' hgrow _; obtain ⟨g', cap', rfl⟩ := ownsRow_succ hown'; obtain ⟨hv1, hv2, hr2, hk2, hb2⟩ := hv.appended (by decide) hrow hsW (by omega) hown' hgrow; have hc1 := hv1.cell; have hf1 := hv1.frozen)
      exact ⟨hk2.from _, KpB.appended hv hrow hgrow hb2, ⟨((HI.box.alloc _).kept hgrow (HI.box.not_row (by decide) hrow)).other (by omega) _, ⟨_, hv2, by rw [pcs_snoc]; simpa using hr2, trivial⟩, HI.below.trans hb2⟩, fun y hy => by rcases List.mem_append.1 hy with hy | hy; exact HL y hy; simp at hy; subst hy; omega⟩
  case done =>
    rintro D xs W hD rfl ⟨HI, HL⟩ hK
    subst hn
    obtain ⟨v, hv, hrow, _⟩ := HI.gath
    have hc := hv.cell
    gi_wp2
    refine ⟨by simp, .inl ⟨_, _, rfl, run_takeDeferred hK, ?_⟩⟩
    refine ⟨_, results_tmp rfl _ _ _, v, rfl, ?_, HI.below.trans (belowK_b (w := W0) (by omega) W D _ _ (by omega) hK rfl rfl)⟩
    rw [range_all (by rw [← hL]; exact HL), ← hL]
    exact ownsRow_putObj hrow _ hK rfl
  case stop =>
    rintro D c pre W hD hpre ⟨p0, x, rfl, rfl, e1, HI, HL⟩ hK
    subst hn
    obtain ⟨v, hv, hrow, _⟩ := HI.gath
    have hc := hv.cell
    gi_wp2
    refine ⟨by simp, .inl ⟨_, _, rfl, run_takeDeferred hK, ?_⟩⟩
    refine ⟨_, results_tmp rfl _ _ _, v, rfl, ?_, HI.below.trans (belowK_b (w := W0) (by omega) W D _ _ (by omega) hK rfl rfl)⟩
    rw [range_cut hr (by rw [← hL]; exact hpre) HL e1]
    exact ownsRow_putObj hrow _ hK rfl
theorem brange_any {w : World} {F : Nat → Prop} {b : Nat} {P : List Pt} {fl : Int} (t u : Int) (h : BufL w F b P fl) :
    Calls Try.prog 19 #[bptr b, .int .i64 t, .int .i64 u] w fun e W' => ∃ v, e = .returned v ∧ PtRow w W' v (rangeP t u P) ∧ Below w.heap.size w W' :=
  rangeS_any (some ⟨b, 0, none⟩) t u h.rise rfl (by obtain ⟨Z, v, _, _, _, h4⟩ := h; exact h4) (fun W hW hb hf => points1_seq h hW hb hf)
theorem brange_nil (t u : Int) (w : World) :
    Calls Try.prog 19 #[.pointer none, .int .i64 t, .int .i64 u] w fun e W' => ∃ v, e = .returned v ∧ PtRow w W' v [] ∧ Below w.heap.size w W' :=
  rangeS_any (P := []) none t u List.Pairwise.nil rfl (by simp) (fun W hW hb hf => points1_nil hb)
/-! ### slices.AppendSeq, Collect: Points -/
set_option maxRecDepth 100000 in
set_option maxHeartbeats 4000000 in
theorem appendSeqP_any {w0 w : World} {Bb Bf : Nat} {t : Int} {L : List Pt} (hL : L.length ≤ 65536) (h0 : Below w0.heap.size w0 w)
    (hseq : SeqP 47 #[.pointer (some ⟨Bb, 0, none⟩), .pointer (some ⟨Bf, 0, none⟩)] L w0.heap.size Bf t w) :
    Calls Try.prog 46 #[.slice none 0 0, .func (.func 47) #[] #[.pointer (some ⟨Bb, 0, none⟩), .pointer (some ⟨Bf, 0, none⟩)]] w fun e W' => ∃ v, e = .returned v ∧ PtRow w W' v L ∧ Below w.heap.size w W' := by
  obtain ⟨i0, hi, hz0, hz1, hz2⟩ := info_parts pInfo
  refine (callsIn_wide (n := 9)).1 ?_
  refine callsIn_of_wp_marks Try.func46 rfl trivial ?_ rfl
  simp only [Try.ntmps46, List.size_toArray, List.length_cons, List.length_nil, Nat.reduceAdd, Nat.reduceSub, Array.replicate_succ, Array.replicate_zero, List.push_toArray, List.append_toArray, List.nil_append, List.cons_append]
  gi_wp2
  have b2 := newB w (.cells #[.slice none 0 0] 39)
  have HB0 := below_alloc (Below.refl w.heap.size w) (.cells #[.slice none 0 0] 39)
  have hsz := alloc_size w (.cells #[.slice none 0 0] 39)
  obtain ⟨W0, hW0⟩ : ∃ W0, w.alloc (.cells #[.slice none 0 0] 39) = W0 := ⟨_, rfl⟩
  have hnn := h0.size
  obtain ⟨n, hn⟩ : ∃ n, w.heap.size = n := ⟨_, rfl⟩
  obtain ⟨m, hm⟩ : ∃ m, w0.heap.size = m := ⟨_, rfl⟩
  rw [hW0] at b2 HB0 hsz ⊢
  rw [hn] at b2 HB0 hsz hnn ⊢
  rw [hm] at hnn hseq
  clear hW0
  refine wpIn_rangeFunc_ownH rfl (by decide) (gf := 47) (lb := #[.pointer (some ⟨Bb, 0, none⟩), .pointer (some ⟨Bf, 0, none⟩)]) rfl trivial (enters_of Try.func47 (by kernel_rfl) rfl)
    hseq (fun h k => h.trans k) (fun W l o o' hl h ho hw => KpB.put (w := W0) (by omega) W l o o' hl h ho hw) (by rw [hn]; exact HB0) (fun _ => rfl)
    (fun pre W => RgK w W n n pre) (fun _ _ _ => False)
    (fun s X Y row hs hg hr => RgK.own id (by omega) (by omega) s X Y row hs hg hr)
    (fun c s X Y row hs hg hr => hs)
    ⟨⟨_, b2, World.ownsRow_nil _ _ _ _, trivial⟩, HB0⟩
    (fun x a' W => ∃ Bx, n < Bx ∧ PtBox W Bx x ∧ a' = { tmps := #[.slice none 0 0, .func (.func 47) #[] #[.pointer (some ⟨Bb, 0, none⟩), .pointer (some ⟨Bf, 0, none⟩)], .pointer (some ⟨n, 0, none⟩), undef, .slice none 0 0, .pointer (some ⟨Bx, 0, none⟩), .func (.func 47) #[] #[.pointer (some ⟨Bb, 0, none⟩), .pointer (some ⟨Bf, 0, none⟩)], bpv x, undef, undef, undef, undef, undef], defers := [] })
    (fun x a' _ X Y row hs hg hr => by obtain ⟨Bx, h1, h2, h3⟩ := hs; exact ⟨Bx, h1, ptBox_own Bx x X Y row h2 hg (fun r e => (hr r e).2), h3⟩)
    ?assign ?body ?done ?stop
  case assign =>
    rintro l pre x W K HI hK
    have hs : n ≤ W.heap.size := hn ▸ HI.below.size
    have hlt2 : n < W.heap.size := by obtain ⟨v, hv, _⟩ := HI.gath; exact hv.lt
    gi_wp2
    exact hK _ _ ((KeepsOthers.alloc _ _).from _) (KpB.alloc _ (by omega)) ⟨by obtain ⟨v, h1, h2, h3⟩ := HI.gath; exact ⟨v, h1.alloc _, h2.alloc _, h3⟩, HI.below.alloc hs _⟩ ⟨W.heap.size, hlt2, newB W _, rfl⟩
  case body =>
    rintro l pre x a' W hl hlW HI ⟨Bx, hBx, bX, rfl⟩ hlt
    obtain ⟨v, hv, hrow, _⟩ := HI.gath
    have hc := hv.cell
    have x0 := cellAt (o := 0) (show W.heap[Bx]? = _ from bX) rfl
    have x1 := cellAt (o := 1) (show W.heap[Bx]? = _ from bX) rfl
    have x2 := cellAt (o := 2) (show W.heap[Bx]? = _ from bX) rfl
    have hsW : n ≤ W.heap.size := hn ▸ HI.below.size
    gi_wp2_with (gi_at_builtin; refine wpListIn_append_own _ rfl _ _ 39 rfl n 45 i0 (.agg #[.int .i64 0, .int .i64 0, .bool false]) 3 24 Try.underlying39 hi hz0 hz1 hz2 rfl (by decide) _ _ _ rfl (hrow.alloc _) ⟨W.heap.size, 0, none⟩ 1 1 (pc x) rfl rfl (cell_pt_new _ _) (by simp [pc, Value.oneCell']) (by unfold maxLen; omega) (by omega) (by simp; omega) ?_; intro v' w1 hown' hgrow _; obtain ⟨g', cap', rfl⟩ := ownsRow_succ hown'; obtain ⟨hv1, hv2, hr2, hk2, hb2⟩ := hv.appended (by decide) hrow hsW (by omega) hown' hgrow; have hc1 := hv1.cell; have hf1 := hv1.frozen)
    exact ⟨hk2.from _, KpB.appended hv hrow hgrow (hb2.mono hnn), ⟨_, hv2, by rw [pcs_snoc]; simpa using hr2, trivial⟩, HI.below.trans hb2⟩
  case done =>
    rintro D xs W hD rfl HI hK
    subst hn
    obtain ⟨v, hv, hrow, _⟩ := HI.gath
    have hc := hv.cell
    gi_wp2
    refine ⟨by simp, .inl ⟨_, _, rfl, run_takeDeferred hK, ?_⟩⟩
    exact ⟨_, results_tmp rfl _ _ _, v, rfl, ownsRow_putObj hrow _ hK rfl, HI.below.trans (belowK_b (w := W0) (by omega) W D _ _ (by omega) hK rfl rfl)⟩
  case stop =>
    rintro D c pre W _ _ h _
    exact h.elim
theorem collectP_any {w0 w : World} {Bb Bf : Nat} {t : Int} {L : List Pt} (hL : L.length ≤ 65536) (h0 : Below w0.heap.size w0 w)
    (hseq : SeqP 47 #[.pointer (some ⟨Bb, 0, none⟩), .pointer (some ⟨Bf, 0, none⟩)] L w0.heap.size Bf t w) :
    Calls Try.prog 35 #[.func (.func 47) #[] #[.pointer (some ⟨Bb, 0, none⟩), .pointer (some ⟨Bf, 0, none⟩)]] w fun e W' => ∃ v, e = .returned v ∧ PtRow w W' v L ∧ Below w.heap.size w W' := by
  have C := Lib.hid (appendSeqP_any hL h0 hseq)
  clear hseq
  go_enter Try.func35, Try.ntmps35
  go_wp2_with fail
  refine C.out.mono ?_
  rintro e w1 ⟨v, rfl, hr, hb⟩
  obtain ⟨a, cap, rfl⟩ := or_form hr
  have HR := Lib.hid hr
  clear hr C
  go_wp2_with fail
  go_ret
  exact ⟨_, rfl, HR.out, hb⟩
theorem pointsS_any {w : World} {P : List Pt} (q : Option Addr) (hP : P.length ≤ 65536)
    (hseq : ∀ W : World, Below w.heap.size w W → W.heap[w.heap.size]? = some (.cells #[.pointer q] 24 (0, 0)) → W.heap[w.heap.size + 1]? = some (.cells #[.int .i64 0] 2 (0, 0)) →
      SeqP 47 #[.pointer (some ⟨w.heap.size, 0, none⟩), .pointer (some ⟨w.heap.size + 1, 0, none⟩)] (aboveP 0 P) w.heap.size (w.heap.size + 1) 0 W) :
    Calls Try.prog 18 #[.pointer q] w fun e W' => ∃ v, e = .returned v ∧ PtRow w W' v (aboveP 0 P) ∧ Below w.heap.size w W' := by
  have b1 := keepA (newB w (.cells #[.pointer q] 24)) (.cells #[.int .i64 0] 2)
  have b2 := newB (w.alloc (.cells #[.pointer q] 24)) (.cells #[.int .i64 0] 2)
  have HB0 := below_alloc (below_alloc (Below.refl w.heap.size w) (.cells #[.pointer q] 24)) (.cells #[.int .i64 0] 2)
  rw [alloc_size] at b2
  have C := Lib.hid (collectP_any (L := aboveP 0 P) (Nat.le_trans (List.length_filter_le _ _) hP) HB0 (hseq _ HB0 b1 b2))
  have HB := Lib.hid HB0
  have CF := Lib.hid (points_fn q 0 w)
  obtain ⟨L, hL⟩ : ∃ L, aboveP 0 P = L := ⟨_, rfl⟩
  rw [hL] at C ⊢
  clear hseq b1 b2 HB0 hL
  go_enter Try.func18, Try.ntmps18
  go_wp2_with fail
  refine CF.out.mono ?_
  rintro e w1 ⟨rfl, rfl⟩
  go_wp2_with fail
  refine C.out.mono ?_
  rintro e w1 ⟨v, rfl, hr, hb⟩
  obtain ⟨a, cap, rfl⟩ := or_form hr
  have HR := Lib.hid hr
  have HB1 := Lib.hid hb
  clear hr hb C CF
  go_wp2_with fail
  go_ret
  exact ⟨_, rfl, ⟨HR.out.1, HR.out.2.imp id (by rintro ⟨g, c, cu, h1, h2, h3⟩; exact ⟨g, c, cu, h1, by have := HB.out.size; omega, h3⟩)⟩, HB.out.trans (HB1.out.mono HB.out.size)⟩
theorem bpts_any {w : World} {F : Nat → Prop} {b : Nat} {P : List Pt} {fl : Int} (h : BufL w F b P fl) :
    Calls Try.prog 18 #[bptr b] w fun e W' => ∃ v, e = .returned v ∧ PtRow w W' v (aboveP 0 P) ∧ Below w.heap.size w W' :=
  pointsS_any (some ⟨b, 0, none⟩) (by obtain ⟨Z, v, _, _, _, h4⟩ := h; exact h4) (fun W hW hb hf => points1_seq h hW hb hf)
theorem bpts_nil (w : World) :
    Calls Try.prog 18 #[.pointer none] w fun e W' => ∃ v, e = .returned v ∧ PtRow w W' v [] ∧ Below w.heap.size w W' :=
  pointsS_any (P := []) none (by simp) (fun W hW hb hf => points1_nil hb)
end Go.Proofs.Ytfblmmnofhkkaaa
