/- Parts of the proof: MkA BtL MkB. -/
import Derived.Test.YtangcgfchalnaaaYar
import Derived.Test.YtangcgfchalnaaaYal
import Derived.Test.YtangcgfchalnaaaYam
/- mark: an intake in memory; right, Mark, Passed, Series, New. -/
namespace Go.Proofs.Ytangcgfchalnaaa
open Go.RowKit Go.MapKept
/-- A series and its points. -/
abbrev SrP := SeC × List Pt
abbrev iptr (i : Nat) : Value := .pointer (some ⟨i, 0, none⟩)
abbrev ikC (la mo pa : Int) (t : Nat) (v : Value) : Obj := .cells #[.int .i64 la, .int .i64 mo, .int .i64 pa, .int .i64 0, tptr t, v] 61 (0, 0)
structure IkOk (la mo pa : Int) (S : List SrP) : Prop where
  la0 : 0 ≤ la
  la1 : la ≤ 1099511627776
  mo0 : 0 ≤ mo
  mo1 : mo ≤ 1099511627776
  pa0 : 0 ≤ pa
  pa1 : pa ≤ 1099511627776
  len : S.length ≤ 1024
structure IntC (w : World) (F : Nat → Prop) (own : Nat → Nat) (i : Nat) (la mo pa : Int) (t : Nat) (v : Value) (bs : List Nat) (S : List SrP) : Prop where
  inF : F i
  oi : own i = 0
  box : w.heap[i]? = some (ikC la mo pa t v)
  tab : TabO t (S.map (·.1)) w (fun k => F k ∧ own k = 1)
  row : RowAt w (fun k => F k ∧ own k = 2) 63 1 v bs.length (bs.map bptr)
  len : bs.length = S.length
  buf : ∀ k (h : k < bs.length) (h' : k < S.length), BufO bs[k] S[k].2 0 w (fun j => F j ∧ own j = k + 3)
/-- An intake. -/
def IntO (i : Nat) (la mo pa : Int) (S : List SrP) : Ob := fun w F => IkOk la mo pa S ∧ ∃ own t v bs, IntC w F own i la mo pa t v bs S
section
variable {w w' : World} {F G T : Nat → Prop} {own : Nat → Nat} {i t n : Nat} {la mo pa : Int} {v : Value} {bs : List Nat} {S : List SrP}
theorem IntC.keep (h : IntC w F own i la mo pa t v bs S) (ho : Only T w w') (hn : ∀ k, F k → k < w.heap.size → ¬ T k) : IntC w' F own i la mo pa t v bs S where
  inF := h.inF
  oi := h.oi
  box := ho.get h.box (hn i h.inF (only_lt h.box))
  tab := (TabO.obj _ _).keep h.tab ho (fun k hk hl => hn k hk.1 hl)
  row := h.row.keep ho (fun k hk hl => hn k hk.1 hl)
  len := h.len
  buf := fun k h1 h2 => (BufO.obj _ _ _).keep (h.buf k h1 h2) ho (fun k hk hl => hn k hk.1 hl)
theorem IntC.weak (h : IntC w F own i la mo pa t v bs S) (hG : ∀ k, k < w.heap.size → F k → G k) : IntC w G own i la mo pa t v bs S where
  inF := hG i (only_lt h.box) h.inF
  oi := h.oi
  box := h.box
  tab := (TabO.obj _ _).weak h.tab (fun k hl hk => ⟨hG k hl hk.1, hk.2⟩)
  row := h.row.weak (fun k hl hk => ⟨hG k hl hk.1, hk.2⟩)
  len := h.len
  buf := fun k h1 h2 => (BufO.obj _ _ _).weak (h.buf k h1 h2) (fun k hl hk => ⟨hG k hl hk.1, hk.2⟩)
theorem IntC.below (h : IntC w F own i la mo pa t v bs S) (hb : Below w.heap.size w w') : IntC w' F own i la mo pa t v bs S := h.keep (T := fun _ => False) (Only.of_below hb) (fun _ _ _ h => h)
end
theorem IntO.obj (i : Nat) (la mo pa : Int) (S : List SrP) : Obj1 (IntO i la mo pa S) where
  keep := fun ⟨h0, own, t, v, bs, h⟩ ho hn => ⟨h0, own, t, v, bs, h.keep ho hn⟩
  old := fun ⟨h0, own, t, v, bs, h⟩ => ⟨h0, own, t, v, bs, h.weak (fun _ hl hk => ⟨hk, hl⟩)⟩
  weak := fun ⟨h0, own, t, v, bs, h⟩ hG => ⟨h0, own, t, v, bs, h.weak hG⟩
section
variable {w : World} {F : Nat → Prop} {own : Nat → Nat} {i t n : Nat} {la mo pa : Int} {v : Value} {bs : List Nat} {S : List SrP}
set_option maxRecDepth 100000 in
theorem mright_any (h : IntC w F own i la mo pa t v bs S) : Calls Try.prog 30 #[iptr i] w fun e w' => e = .returned (.bool true) ∧ w = w' := by
  have k4 := cellAt (o := 4) (v := tptr t) h.box rfl
  clear h
  go_enter Try.func30, Try.ntmps30
  go_wp2_with fail
  go_ret
  exact ⟨rfl, rfl⟩
set_option maxRecDepth 100000 in
theorem mright_nil (w : World) : Calls Try.prog 30 #[.pointer none] w fun e w' => e = .returned (.bool false) ∧ w = w' := by
  go_enter Try.func30, Try.ntmps30
  go_wp2_with fail
  go_ret
  exact ⟨rfl, rfl⟩
/-- The mark. -/
def mkI (la mo : Int) : Int := max 0 (mo - la)
set_option maxRecDepth 100000 in
theorem mmark_c (h : IntC w F own i la mo pa t v bs S) (hk : IkOk la mo pa S) : Calls Try.prog 10 #[iptr i] w fun e w' => e = .returned (.int .i64 (mkI la mo)) ∧ Below w.heap.size w w' := by
  have CR := Lib.hid (mright_any h)
  have HX := Lib.hid h.box
  have hw : IntKind.i64.wrap (mo - la) = mo - la := by rw [IntKind.wrap_i64]; have := hk.la0; have := hk.la1; have := hk.mo0; have := hk.mo1; omega
  obtain ⟨d, hd⟩ : ∃ d, mo - la = d := ⟨_, rfl⟩
  rw [hd] at hw
  have hm : mkI la mo = max 0 d := by unfold mkI; rw [hd]
  have hw : IntKind.i64.wrap (mo - la) = d := by rw [hd]; exact hw
  rw [hm]
  clear h hk hd hm
  go_enter Try.func10, Try.ntmps10
  go_wp2_with fail
  refine CR.out.mono ?_
  rintro e w1 ⟨rfl, rfl⟩
  go_wp2_with fail
  refine wp_region_here 11 [(0, false), (1, false), (2, false), (3, false), (4, false), (5, false), (6, false), (7, false), (8, false), (9, false), (10, false)] (fun _ => .cells #[] 0) (by kernel_rfl) (by kernel_rfl) ?_
  repeat (first | (refine wpP_q rfl rfl rfl ?_; apply Exists.intro; refine ⟨fun w' hw' => ?_, fun K hK => ?_⟩; (focus ((have q0 := keepB HX.out hw'; have k0 := cellAt (o := 0) (v := .int .i64 la) q0 rfl; have k1 := cellAt (o := 1) (v := .int .i64 mo) q0 rfl; clear q0); go_simp; first | exact quiet_value | fail)); simp only [Act.put, List.setIfInBounds_toArray, List.set_cons_zero, List.set_cons_succ]; refine hK.out _ ?_; clear hK K) | (refine wpP_skip rfl rfl rfl (fun K hK => ?_); simp only [Act.put, List.setIfInBounds_toArray, List.set_cons_zero, List.set_cons_succ]; refine hK.out _ ?_; clear hK K))
  refine wpP_nil ?_
  intro w2 hb2
  (try simp only [List.drop_succ_cons]); (try simp only [List.drop_zero]); (try simp only [List.drop_nil])
  go_wp2_with fail
  all_goals
    go_ret
    first
      | (rw [show (max 0 d : Int) = d by omega]; exact ⟨rfl, hb2⟩)
      | (rw [show (max 0 d : Int) = 0 by omega]; exact ⟨rfl, hb2⟩)
theorem mmark_any (h : IntO i la mo pa S w F) : Calls Try.prog 10 #[iptr i] w fun e w' => e = .returned (.int .i64 (mkI la mo)) ∧ Below w.heap.size w w' := by
  obtain ⟨hk, own, t, v, bs, h⟩ := h
  exact mmark_c h hk
set_option maxRecDepth 100000 in
theorem mpassed_any (h : IntO i la mo pa S w F) : Calls Try.prog 16 #[iptr i] w fun e w' => e = .returned (.int .i64 pa) ∧ Below w.heap.size w w' := by
  obtain ⟨hk, own, t, v, bs, h⟩ := h
  have CR := Lib.hid (mright_any h)
  have k2 := cellAt (o := 2) (v := .int .i64 pa) h.box rfl
  clear h hk
  go_enter Try.func16, Try.ntmps16
  go_wp2_with fail
  refine CR.out.mono ?_
  rintro e w1 ⟨rfl, rfl⟩
  go_wp2_with fail
  go_ret
  exact ⟨rfl, Below.refl _ _⟩
set_option maxRecDepth 100000 in
theorem mseries_any (hn : S.length = n) (h : IntO i la mo pa S w F) : Calls Try.prog 12 #[iptr i] w fun e w' => e = .returned (.int .i64 (n : Int)) ∧ Below w.heap.size w w' := by
  obtain ⟨hk, own, t, v, bs, h⟩ := h
  have CR := Lib.hid (mright_any h)
  have CT := Lib.hid (tlen_any (n := n) h.tab (by rw [List.length_map]; exact hn))
  have k4 := cellAt (o := 4) (v := tptr t) h.box rfl
  clear h hk hn
  go_enter Try.func12, Try.ntmps12
  go_wp2_with fail
  refine CR.out.mono ?_
  rintro e w1 ⟨rfl, rfl⟩
  go_wp2_with fail
  refine CT.out.mono ?_
  rintro e w1 ⟨rfl, rfl⟩
  go_wp2_with fail
  go_ret
  exact ⟨rfl, Below.refl _ _⟩
/-! ### New -/
set_option maxRecDepth 100000 in
theorem mnew_bad (w : World) (h : la < 0 ∨ 1099511627776 < la) : Calls Try.prog 8 #[.int .i64 la] w fun e w' => e = .returned (.tuple #[.pointer none, .int .i64 2]) ∧ Below w.heap.size w w' := by
  by_cases h0 : la < 0
  · clear h
    go_enter Try.func8, Try.ntmps8
    go_wp2_with fail
    exact bodyPost_ret (v := .tuple #[.pointer none, .int .i64 2]) (by simp only [results, Try.results8]; go_simp) rfl ⟨rfl, Below.refl _ _⟩
  · have h1 : 1099511627776 < la := by omega
    clear h
    go_enter Try.func8, Try.ntmps8
    go_wp2_with fail
    exact bodyPost_ret (v := .tuple #[.pointer none, .int .i64 2]) (by simp only [results, Try.results8]; go_simp) rfl ⟨rfl, Below.refl _ _⟩
set_option maxRecDepth 100000 in
theorem mnew_any (w : World) (h0 : 0 ≤ la) (h1 : la ≤ 1099511627776) : Calls Try.prog 8 #[.int .i64 la] w fun e w' => ∃ i, e = .returned (.tuple #[iptr i, .int .i64 0]) ∧ IntO i la 0 0 [] w' (fun k => w.heap.size ≤ k) ∧ Below w.heap.size w w' := by
  have h0' : ¬ la < 0 := by omega
  have h1' : ¬ 1099511627776 < la := by omega
  have H := Lib.hid (And.intro h0 h1)
  clear h0 h1
  go_enter Try.func8, Try.ntmps8
  go_wp2_with fail
  refine (tnew_any _).mono ?_
  rintro e w1 ⟨t, rfl, ht, hT, hb⟩
  have HT := Lib.hid hT
  have HB := Lib.hid hb
  have HT0 := Lib.hid ht
  clear hT hb ht
  obtain ⟨x, hx⟩ : ∃ x, Obj.cells #[.int .i64 la, .int .i64 0, .int .i64 0, .int .i64 0, tptr t, .slice none 0 0] 61 = x := ⟨_, rfl⟩
  have HX := Lib.hid hx
  clear hx
  go_wp2_with fail
  rw [HX.out]
  refine bodyPost_ret (v := .tuple #[iptr w1.heap.size, .int .i64 0]) (by simp only [results, Try.results8]; go_simp) rfl ?_
  refine ⟨w1.heap.size, rfl, ⟨⟨H.out.1, H.out.2, by omega, by omega, by omega, by omega, by simp⟩, fun k => if k = w1.heap.size then 0 else 1, t, .slice none 0 0, [], ?_⟩, below_alloc HB.out _⟩
  exact { inF := HB.out.size, oi := if_pos rfl, box := by rw [← HX.out]; exact newB _ _, tab := (TabO.obj _ _).below ((TabO.obj _ _).weak HT.out (fun k hk hk2 => ⟨hk2, if_neg (by omega)⟩)) (below_alloc (Below.refl _ _) _), row := RowAt.nil_, len := rfl, buf := fun k h _ => by cases h }
/-! ### What is not there -/
theorem mmark_nil (w : World) : Calls Try.prog 10 #[.pointer none] w fun e w' => e = .returned (.int .i64 0) ∧ w = w' := by
  go_enter Try.func10, Try.ntmps10
  go_wp2_with fail
  refine (mright_nil _).mono ?_
  rintro e w1 ⟨rfl, rfl⟩
  go_wp2_with fail
  go_ret
  exact ⟨rfl, rfl⟩
theorem mpassed_nil (w : World) : Calls Try.prog 16 #[.pointer none] w fun e w' => e = .returned (.int .i64 0) ∧ w = w' := by
  go_enter Try.func16, Try.ntmps16
  go_wp2_with fail
  refine (mright_nil _).mono ?_
  rintro e w1 ⟨rfl, rfl⟩
  go_wp2_with fail
  go_ret
  exact ⟨rfl, rfl⟩
theorem mseries_nil (w : World) : Calls Try.prog 12 #[.pointer none] w fun e w' => e = .returned (.int .i64 0) ∧ w = w' := by
  go_enter Try.func12, Try.ntmps12
  go_wp2_with fail
  refine (mright_nil _).mono ?_
  rintro e w1 ⟨rfl, rfl⟩
  go_wp2_with fail
  go_ret
  exact ⟨rfl, rfl⟩
theorem mbytes_nil (w : World) : Calls Try.prog 22 #[.pointer none] w fun e w' => e = .returned (.slice none 0 0) ∧ w = w' := by
  go_enter Try.func22, Try.ntmps22
  go_wp2_with fail
  refine (mright_nil _).mono ?_
  rintro e w1 ⟨rfl, rfl⟩
  go_wp2_with fail
  go_ret
  exact ⟨rfl, rfl⟩
theorem mbetween_nil (w : World) (f u m : Int) : Calls Try.prog 31 #[.pointer none, .int .i64 f, .int .i64 u, .int .i64 m] w fun e w' => e = .returned (.slice none 0 0) ∧ w = w' := by
  go_enter Try.func31, Try.ntmps31
  go_wp2_with fail
  refine (mright_nil _).mono ?_
  rintro e w1 ⟨rfl, rfl⟩
  go_wp2_with fail
  go_ret
  exact ⟨rfl, rfl⟩
theorem mBetween_nil (w : World) (f u : Int) : Calls Try.prog 18 #[.pointer none, .int .i64 f, .int .i64 u] w fun e w' => e = .returned (.slice none 0 0) ∧ w = w' := by
  go_enter Try.func18, Try.ntmps18
  go_wp2_with fail
  refine (mbetween_nil _ _ _ _).mono ?_
  rintro e w1 ⟨rfl, rfl⟩
  go_wp2_with fail
  go_ret
  exact ⟨rfl, rfl⟩
theorem msamples_nil (w : World) : Calls Try.prog 11 #[.pointer none] w fun e w' => e = .returned (.slice none 0 0) ∧ w = w' := by
  go_enter Try.func11, Try.ntmps11
  go_wp2_with fail
  refine (mbetween_nil _ _ _ _).mono ?_
  rintro e w1 ⟨rfl, rfl⟩
  go_wp2_with fail
  go_ret
  exact ⟨rfl, rfl⟩
theorem mnext_nil (w : World) (m : Int) : Calls Try.prog 14 #[.pointer none, .int .i64 m] w fun e w' => e = .returned (.tuple #[.slice none 0 0, .int .i64 0]) ∧ w = w' := by
  go_enter Try.func14, Try.ntmps14
  go_wp2_with fail
  refine (mright_nil _).mono ?_
  rintro e w1 ⟨rfl, rfl⟩
  go_wp2_with fail
  exact bodyPost_ret (v := .tuple #[.slice none 0 0, .int .i64 0]) (by simp only [results, Try.results14]; go_simp) rfl ⟨rfl, rfl⟩
theorem mpass_nil (w : World) (m : Int) : Calls Try.prog 15 #[.pointer none, .int .i64 m] w fun e w' => e = .returned (.int .i64 1) ∧ w = w' := by
  go_enter Try.func15, Try.ntmps15
  go_wp2_with fail
  refine (mright_nil _).mono ?_
  rintro e w1 ⟨rfl, rfl⟩
  go_wp2_with fail
  go_ret
  exact ⟨rfl, rfl⟩
theorem mtrim_nil (w : World) (m : Int) : Calls Try.prog 20 #[.pointer none, .int .i64 m] w fun e w' => e = .returned (.tuple #[.int .i64 0, .int .i64 1]) ∧ w = w' := by
  go_enter Try.func20, Try.ntmps20
  go_wp2_with fail
  refine (mright_nil _).mono ?_
  rintro e w1 ⟨rfl, rfl⟩
  go_wp2_with fail
  exact bodyPost_ret (v := .tuple #[.int .i64 0, .int .i64 1]) (by simp only [results, Try.results20]; go_simp) rfl ⟨rfl, rfl⟩
end
end Go.Proofs.Ytangcgfchalnaaa

/- mark: what between tells, as plain law. -/
namespace Go.Proofs.Ytangcgfchalnaaa
/-- A sample among others: its time, its series' number, its number. -/
abbrev Ev := Int × Nat × Int
def ltE (a b : Ev) : Bool := decide (a.1 < b.1) || (decide (a.1 = b.1) && decide (a.2.1 < b.2.1))
def keyE (a : Ev) : Int × Nat := (a.1, a.2.1)
theorem ltE_iff (a b : Ev) : ltE a b = true ↔ a.1 < b.1 ∨ (a.1 = b.1 ∧ a.2.1 < b.2.1) := by
  unfold ltE
  simp only [Bool.or_eq_true, Bool.and_eq_true, decide_eq_true_eq]
theorem ltE_irr (a : Ev) : ltE a a = false := by
  rw [Bool.eq_false_iff]
  intro h
  have := (ltE_iff a a).1 h
  omega
theorem ltE_key {a b : Ev} (h : ltE a b = true) : keyE a ≠ keyE b := fun e => by
  unfold keyE at e
  rw [ltE_iff] at h
  simp only [Prod.mk.injEq] at e
  omega
theorem ltE_trans {a b c : Ev} (h1 : ltE a b = true) (h2 : ltE b c = true) : ltE a c = true := by
  rw [ltE_iff] at *; omega
theorem ltE_tri {a b : Ev} (h : keyE a ≠ keyE b) : ltE a b = true ∨ ltE b a = true := by
  rw [ltE_iff, ltE_iff]
  unfold keyE at h
  simp only [ne_eq, Prod.mk.injEq] at h
  omega
def insE (e : Ev) : List Ev → List Ev
  | [] => [e]
  | a :: L => if ltE a e = true then a :: insE e L else e :: a :: L
def sortE : List Ev → List Ev
  | [] => []
  | a :: L => insE a (sortE L)
theorem insE_perm (e : Ev) : ∀ L : List Ev, (insE e L).Perm (e :: L)
  | [] => List.Perm.refl _
  | a :: L => by
    unfold insE
    split
    · exact ((insE_perm e L).cons a).trans (List.Perm.swap e a L)
    · exact List.Perm.refl _
theorem sortE_perm : ∀ L : List Ev, (sortE L).Perm L
  | [] => List.Perm.refl _
  | a :: L => (insE_perm a _).trans ((sortE_perm L).cons a)
abbrev SrtE (L : List Ev) : Prop := L.Pairwise (fun a b => ltE a b = true)
theorem insE_srt (e : Ev) : ∀ L : List Ev, SrtE L → (∀ a ∈ L, keyE e ≠ keyE a) → SrtE (insE e L)
  | [], _, _ => List.pairwise_singleton _ _
  | a :: L, h, hk => by
    obtain ⟨h1, h2⟩ := List.pairwise_cons.1 h
    unfold insE
    split
    · rename_i hl
      refine List.pairwise_cons.2 ⟨fun b hb => ?_, insE_srt e L h2 (fun b hb => hk b (List.mem_cons_of_mem _ hb))⟩
      rcases List.mem_cons.1 ((insE_perm e L).mem_iff.1 hb) with rfl | hb
      · exact hl
      · exact h1 b hb
    · rename_i hl
      have hea : ltE e a = true := (ltE_tri (hk a List.mem_cons_self)).resolve_right hl
      refine List.pairwise_cons.2 ⟨fun b hb => ?_, h⟩
      rcases List.mem_cons.1 hb with rfl | hb
      · exact hea
      · exact ltE_trans hea (h1 b hb)
theorem sortE_srt : ∀ L : List Ev, (L.map keyE).Nodup → SrtE (sortE L)
  | [], _ => List.Pairwise.nil
  | a :: L, h => by
    rw [List.map_cons, List.nodup_cons] at h
    refine insE_srt a _ (sortE_srt L h.2) (fun b hb e => h.1 ?_)
    rw [e]
    exact List.mem_map_of_mem ((sortE_perm L).mem_iff.1 hb)
/-- The same elements, both sorted: the same lists. -/
theorem srt_uniq : ∀ (L M : List Ev), SrtE L → SrtE M → L.Perm M → L = M
  | [], M, _, _, h => (List.nil_perm.1 h).symm
  | a :: L, [], _, _, h => absurd (List.perm_nil.1 h) (by simp)
  | a :: L, b :: M, h1, h2, h => by
    obtain ⟨a1, a2⟩ := List.pairwise_cons.1 h1
    obtain ⟨b1, b2⟩ := List.pairwise_cons.1 h2
    have e : a = b := by
      rcases List.mem_cons.1 (h.mem_iff.1 (List.mem_cons_self (a := a) (l := L))) with e | e
      · exact e
      · rcases List.mem_cons.1 (h.mem_iff.2 (List.mem_cons_self (a := b) (l := M))) with e' | e'
        · exact e'.symm
        · have x1 := b1 a e
          have x2 := a1 b e'
          have := ltE_trans x1 x2
          rw [ltE_irr] at this; cases this
    subst e
    rw [srt_uniq L M a2 b2 ((List.perm_cons a).1 h)]
/-- A series' points, as events. -/
def evs (k : Nat) (P : List Pt) : List Ev := P.map (fun q => (q.1, k, q.2))
/-- All events of the buffers, from a number on. -/
def allE (f u : Int) : Nat → List (List Pt) → List Ev
  | _, [] => []
  | k, P :: r => evs (k + 1) (rangeP f u P) ++ allE f u (k + 1) r
theorem allE_snoc (f u : Int) (P : List Pt) : ∀ (k : Nat) (Q : List (List Pt)), allE f u k (Q ++ [P]) = allE f u k Q ++ evs (k + Q.length + 1) (rangeP f u P)
  | k, [] => by simp [allE]
  | k, R :: Q => by
    have := allE_snoc f u P (k + 1) Q
    simp only [List.cons_append, allE, this, List.length_cons, List.append_assoc]
    rw [show k + 1 + Q.length + 1 = k + (Q.length + 1) + 1 by omega]
theorem allE_id {f u : Int} : ∀ {k : Nat} {Q : List (List Pt)} {e : Ev}, e ∈ allE f u k Q → k < e.2.1 ∧ e.2.1 ≤ k + Q.length
  | k, [], e, h => by simp [allE] at h
  | k, P :: Q, e, h => by
    simp only [allE, List.mem_append] at h
    rw [List.length_cons]
    rcases h with h | h
    · obtain ⟨q, _, rfl⟩ := List.mem_map.1 h
      simp only
      omega
    · have := allE_id h
      omega
theorem evs_nodup {k : Nat} {P : List Pt} (h : Rise P) : ((evs k P).map keyE).Nodup := by
  unfold evs
  rw [List.map_map]
  have h' : P.Pairwise (fun a b => a.1 < b.1) := h
  refine List.pairwise_map.2 (h'.imp ?_)
  intro a b hab e
  simp only [Function.comp, keyE, Prod.mk.injEq] at e
  omega
theorem allE_nodup {f u : Int} : ∀ {k : Nat} {Q : List (List Pt)}, (∀ P ∈ Q, Rise P) → ((allE f u k Q).map keyE).Nodup
  | k, [], _ => by simp [allE]
  | k, P :: Q, h => by
    simp only [allE, List.map_append]
    rw [List.nodup_append]
    refine ⟨evs_nodup ?_, allE_nodup (fun R hR => h R (List.mem_cons_of_mem _ hR)), fun a ha b hb e => ?_⟩
    · exact List.Pairwise.filter _ (h P List.mem_cons_self)
    · obtain ⟨x, hx, rfl⟩ := List.mem_map.1 ha
      obtain ⟨y, hy, rfl⟩ := List.mem_map.1 hb
      have := allE_id hy
      unfold evs at hx
      obtain ⟨q, _, rfl⟩ := List.mem_map.1 hx
      simp only [keyE, Prod.mk.injEq] at e
      omega
/-- What between tells, if nothing cuts it. -/
def btE (f u : Int) (Q : List (List Pt)) : List Ev := sortE (allE f u 0 Q)
theorem btE_srt {f u : Int} {Q : List (List Pt)} (h : ∀ P ∈ Q, Rise P) : SrtE (btE f u Q) := sortE_srt _ (allE_nodup h)
theorem btE_perm (f u : Int) (Q : List (List Pt)) : (btE f u Q).Perm (allE f u 0 Q) := sortE_perm _
theorem btE_id {f u : Int} {Q : List (List Pt)} {e : Ev} (h : e ∈ btE f u Q) : 1 ≤ e.2.1 ∧ e.2.1 ≤ Q.length := by
  have := allE_id ((btE_perm f u Q).mem_iff.1 h); omega
/-! ### What is left in a heap -/
def plE (A : List Plc) : List Ev := A.flatMap (fun x => evs x.1 x.2.2)
theorem plE_perm {A B : List Plc} (h : A.Perm B) : (plE A).Perm (plE B) := h.flatMap_right _
/-- The first place of a heap tells the first event. -/
theorem heap_first {A A' : List Plc} {x : Plc} {R : List Ev} (hS : SrtE R) (hR : R.Perm (plE A)) (hA : (x :: A').Perm A) (hmin : ∀ y ∈ A, ltP y x = false) (hr : ∀ y ∈ A, Rise y.2.2) {q : Pt} {P : List Pt} (hx : x.2.2 = q :: P) : ∃ R', R = (q.1, x.1, q.2) :: R' ∧ R'.Perm (evs x.1 P ++ plE A') := by
  have h1 : R.Perm ((q.1, x.1, q.2) :: (evs x.1 P ++ plE A')) := by
    refine hR.trans ((plE_perm hA).symm.trans ?_)
    unfold plE
    rw [List.flatMap_cons, hx]
    exact List.Perm.refl _
  have hle : ∀ e ∈ R, ltE e (q.1, x.1, q.2) = false := by
    intro e he
    have he2 := hR.mem_iff.1 he
    unfold plE at he2
    obtain ⟨y, hy, hey⟩ := List.mem_flatMap.1 he2
    unfold evs at hey
    obtain ⟨p, hp, rfl⟩ := List.mem_map.1 hey
    have hm := hmin y hy
    have hry := hr y hy
    rw [Bool.eq_false_iff] at hm ⊢
    intro hc
    apply hm
    rw [ltE_iff] at hc
    unfold ltP plT
    simp only [Bool.or_eq_true, Bool.and_eq_true, decide_eq_true_eq]
    rw [hx, List.headD_cons]
    cases hyp : y.2.2 with
    | nil => rw [hyp] at hp; cases hp
    | cons z Z =>
      rw [List.headD_cons]
      rw [hyp] at hp hry
      have hz : z.1 ≤ p.1 := by
        rcases List.mem_cons.1 hp with rfl | hp
        · exact Int.le_refl _
        · exact Int.le_of_lt ((List.pairwise_cons.1 hry).1 p hp)
      simp only at hc
      omega
  cases R with
  | nil => exact absurd (List.nil_perm.1 h1) (by simp)
  | cons r R =>
    obtain ⟨s1, s2⟩ := List.pairwise_cons.1 hS
    have e : r = (q.1, x.1, q.2) := by
      rcases List.mem_cons.1 (h1.mem_iff.2 List.mem_cons_self) with e | e
      · exact e.symm
      · have := s1 _ e
        rw [hle r List.mem_cons_self] at this; cases this
    subst e
    exact ⟨R, rfl, (List.perm_cons _).1 h1⟩
end Go.Proofs.Ytangcgfchalnaaa

/- mark: of, May. -/
namespace Go.Proofs.Ytangcgfchalnaaa
open Go.RowKit Go.MapKept
/-- The buffer of a number. -/
def ofV (bs : List Nat) (k : Nat) : Value := if k = 0 then .pointer none else bptr (bs.getD (k - 1) 0)
section
variable {w : World} {F : Nat → Prop} {own : Nat → Nat} {i t n c k : Nat} {la mo pa : Int} {v : Value} {bs : List Nat} {S : List SrP} {m : ByteArray} {A : Option Addr} {L : List Lb}
theorem IntC.row_cell (h : IntC w F own i la mo pa t v bs S) {j : Nat} (hj : j < bs.length) : ∃ ad c, v = .slice (some ad) bs.length c ∧ w.cell? (ad.add j) = some (bptr bs[j]) := by
  obtain ⟨A, c, hv, _, _, hr, _, _⟩ := h.row.form
  obtain ⟨ad, rfl, _, hc⟩ := hr.2 (by omega)
  exact ⟨ad, c, hv, hc j _ (by simp [hj])⟩
theorem IntC.n24 (h : IntC w F own i la mo pa t v bs S) (hk : IkOk la mo pa S) : bs.length ≤ 1024 := by rw [h.len]; exact hk.len
set_option maxHeartbeats 4000000 in
set_option maxRecDepth 100000 in
theorem mof_any (h : IntC w F own i la mo pa t v bs S) (hk : IkOk la mo pa S) (hn : L.length = n) (hr : RdLb w A L) (hE : serE m L = 0) (hS : smallS m L) (hi : idK (seK (m, L)) (S.map (·.1)) = k) :
    Calls Try.prog 41 #[iptr i, .agg #[.string m, .slice A n c]] w fun e w' => e = .returned (ofV bs k) ∧ Below w.heap.size w w' := by
  have HB := Lib.hid (below_alloc (Below.refl w.heap.size w) (.cells #[.string m, .slice A n c] 32))
  have HX := Lib.hid (newB w (.cells #[.string m, .slice A n c] 32))
  have hkl : k ≤ bs.length := by have := idK_le (seK (m, L)) (S.map (·.1)); rw [hi, List.length_map] at this; rw [h.len]; exact this
  have CF := Lib.hid (fun W (hb : Below w.heap.size w W) => tfind_any (c := c) (b := decide (k ≠ 0)) ((TabO.obj _ _).below h.tab hb) hn (h := hr.below hb) hE hS hi rfl)
  obtain ⟨b, hb⟩ : ∃ b, decide (k ≠ 0) = b := ⟨_, rfl⟩
  rw [hb] at CF
  have HI := Lib.hid h
  have hn24 := h.n24 hk
  obtain ⟨V, hV⟩ : ∃ V, ofV bs k = V := ⟨_, rfl⟩
  rw [hV]
  have HV := Lib.hid hV
  clear h hk hn hr hE hS hi hV
  go_enter Try.func41, Try.ntmps41
  go_wp2_with fail
  refine wp_region_here 11 [(0, false), (1, false), (2, false), (3, false), (4, false), (5, false), (6, false), (7, false), (8, false), (9, false), (10, false)] (fun _ => .cells #[] 0) (by kernel_rfl) (by kernel_rfl) ?_
  repeat (first | (refine wpP_q rfl rfl rfl ?_; apply Exists.intro; refine ⟨fun w' hw' => ?_, fun K hK => ?_⟩; (focus ((have hB := HB.out.trans (hw'.mono HB.out.size); have k4 := cellAt (o := 4) (v := tptr t) (keepB HI.out.box hB) rfl; have d0 := cellAt (o := 0) (keepB HX.out hw') rfl; have d1 := cellAt (o := 1) (keepB HX.out hw') rfl); go_simp; first | exact quiet_value | with_reducible exact quiet_enter (CF.out _ (HB.out.trans (hw'.mono HB.out.size))))); simp only [Act.put, List.setIfInBounds_toArray, List.set_cons_zero, List.set_cons_succ]; refine hK.out _ ?_; clear hK K) | (refine wpP_skip rfl rfl rfl (fun K hK => ?_); simp only [Act.put, List.setIfInBounds_toArray, List.set_cons_zero, List.set_cons_succ]; refine hK.out _ ?_; clear hK K))
  refine wpP_nil ?_
  intro w2 hb2
  have HB2 := Lib.hid (HB.out.trans (hb2.mono HB.out.size))
  clear hb2 CF
  (try simp only [List.drop_succ_cons]); (try simp only [List.drop_zero]); (try simp only [List.drop_nil])
  by_cases h0 : k = 0
  · subst h0
    obtain rfl : b = false := by rw [← hb]; rfl
    clear hb
    have e : Value.pointer none = V := HV.out
    subst e
    go_wp2_with fail
    go_ret
    exact ⟨rfl, HB2.out⟩
  · obtain rfl : b = true := by rw [← hb]; simp [h0]
    clear hb
    obtain ⟨j, rfl⟩ : ∃ j, k = j + 1 := ⟨k - 1, by omega⟩
    have hI2 := HI.out.below HB2.out
    obtain ⟨ad, c2, rfl, hc⟩ := hI2.row_cell (j := j) (by omega)
    have k5 := cellAt (o := 5) (v := .slice (some ad) bs.length c2) hI2.box rfl
    obtain ⟨N, hN⟩ : ∃ N, bs.length = N := ⟨_, rfl⟩
    have hbj : bs[j]'(by omega) = bs.getD j 0 := by rw [List.getD_eq_getElem?_getD, List.getElem?_eq_getElem (by omega)]; rfl
    rw [hbj] at hc
    have hov : ofV bs (j + 1) = bptr (bs.getD j 0) := by unfold ofV; rw [if_neg (by omega), Nat.add_sub_cancel]
    rw [HV.out] at hov
    subst hov
    obtain ⟨b0, hb0⟩ : ∃ b, bs.getD j 0 = b := ⟨_, rfl⟩
    rw [hb0] at hc
    rw [hN] at k5 hkl hn24
    clear hI2 hbj hN
    obtain ⟨j1, hj1⟩ : ∃ x, j + 1 = x := ⟨_, rfl⟩
    rw [hj1] at hkl h0 ⊢
    have hw : IntKind.i64.wrap ((j1 : Int) - 1) = (j : Int) := by rw [IntKind.wrap_i64]; omega
    have hjN : j < N := by omega
    have hjI : (j : Int) < (N : Int) := by omega
    go_wp2_with fail
    go_ret
    rw [hb0]
    exact ⟨rfl, HB2.out⟩
/-! ### What May asks -/
variable {b0 b1 : Nat} {tm x : Int}
abbrev smB (m : ByteArray) (A : Option Addr) (n c : Nat) (tm x : Int) : Obj := .cells #[.string m, .slice A n c, .int .i64 tm, .int .i64 x] 34 (0, 0)
abbrev ipB (i : Nat) : Obj := .cells #[iptr i] 25 (0, 0)
/-- The points of a series. -/
def ptsS (k : Nat) (S : List SrP) : List Pt := if k = 0 then [] else (S.getD (k - 1) ((⟨#[]⟩, []), [])).2
def thereE (k : Nat) (tm : Int) (S : List SrP) : Int := if hasT tm (ptsS k S) = true then 7 else 0
def fullE (k : Nat) (S : List SrP) : Int := if (k = 0 ∧ S.length = 1024) ∨ (ptsS k S).length = 65536 then 3 else 0
set_option maxRecDepth 100000 in
theorem may1_any (h1 : w.heap[b1]? = some (smB m A n c tm x)) (hn : L.length = n) (hr : RdLb w A L) :
    Calls Try.prog 37 #[.pointer (some ⟨b1, 0, none⟩)] w fun e w' => e = .returned (.int .i64 (smpE m L tm)) ∧ Below w.heap.size w w' := by
  have CS := Lib.hid (csmp_any (m := m) (c := c) (t := tm) (k := x) hn hr)
  have d0 := cellAt (o := 0) h1 rfl
  have d1 := cellAt (o := 1) h1 rfl
  have d2 := cellAt (o := 2) h1 rfl
  have d3 := cellAt (o := 3) h1 rfl
  obtain ⟨E, hE⟩ : ∃ E, smpE m L tm = E := ⟨_, rfl⟩
  rw [hE] at CS ⊢
  clear hn hr h1 hE
  go_enter Try.func37, Try.ntmps37
  go_wp2_with fail
  refine CS.out.mono ?_
  rintro e w1 ⟨rfl, hb⟩
  have HB := Lib.hid hb
  clear hb
  go_wp2_with fail
  go_ret
  exact ⟨rfl, HB.out⟩
set_option maxRecDepth 100000 in
theorem may2_any (h : IntC w F own i la mo pa t v bs S) (hk : IkOk la mo pa S) (h1 : w.heap[b1]? = some (smB m A n c tm x)) (h0 : w.heap[b0]? = some (ipB i)) :
    Calls Try.prog 39 #[.pointer (some ⟨b1, 0, none⟩), .pointer (some ⟨b0, 0, none⟩)] w fun e w' => e = .returned (.int .i64 (if tm ≤ mkI la mo then 8 else 0)) ∧ Below w.heap.size w w' := by
  have CM := Lib.hid (fun W (hb : Below w.heap.size w W) => mmark_c (h.below hb) hk)
  have H1 := Lib.hid h1
  have H0 := Lib.hid h0
  obtain ⟨M, hM⟩ : ∃ M, mkI la mo = M := ⟨_, rfl⟩
  rw [hM] at CM ⊢
  obtain ⟨E, hE⟩ : ∃ E : Int, (if tm ≤ M then 8 else 0) = E := ⟨_, rfl⟩
  rw [hE]
  have HE := Lib.hid hE
  clear h hk h1 h0 hM hE
  go_enter Try.func39, Try.ntmps39
  go_wp2_with fail
  refine wp_region_here 5 [(0, false), (1, false), (2, false), (3, false), (4, false)] (fun _ => .cells #[] 0) (by kernel_rfl) (by kernel_rfl) ?_
  repeat (first | (refine wpP_q rfl rfl rfl ?_; apply Exists.intro; refine ⟨fun w' hw' => ?_, fun K hK => ?_⟩; (focus ((have k0 := cellAt (o := 0) (v := iptr i) (keepB H0.out hw') rfl; have d2 := cellAt (o := 2) (v := .int .i64 tm) (keepB H1.out hw') rfl); go_simp; first | exact quiet_value | with_reducible exact quiet_enter (CM.out _ hw'))); simp only [Act.put, List.setIfInBounds_toArray, List.set_cons_zero, List.set_cons_succ]; refine hK.out _ ?_; clear hK K) | (refine wpP_skip rfl rfl rfl (fun K hK => ?_); simp only [Act.put, List.setIfInBounds_toArray, List.set_cons_zero, List.set_cons_succ]; refine hK.out _ ?_; clear hK K))
  refine wpP_nil ?_
  intro w2 hb2
  have HB := Lib.hid hb2
  clear hb2 CM
  (try simp only [List.drop_succ_cons]); (try simp only [List.drop_zero]); (try simp only [List.drop_nil])
  by_cases hle : tm ≤ M
  · have e : E = 8 := by rw [← HE.out, if_pos hle]
    subst e
    go_wp2_with fail
    go_ret
    exact ⟨rfl, HB.out⟩
  · have e : E = 0 := by rw [← HE.out, if_neg hle]
    subst e
    go_wp2_with fail
    go_ret
    exact ⟨rfl, HB.out⟩
theorem atP_snd (tm : Int) (P : List Pt) : (atP tm P).2 = hasT tm P := by
  unfold atP hasT
  cases hf : P.find? (fun q => decide (q.1 = tm)) with
  | none =>
    have := List.find?_eq_none.1 hf
    symm
    simpa using this
  | some q =>
    symm
    rw [List.any_eq_true]
    exact ⟨q, List.mem_of_find?_eq_some hf, List.find?_some (p := fun q : Pt => decide (q.1 = tm)) hf⟩
/-- At, of a number's buffer. -/
theorem at_of (h : IntC w F own i la mo pa t v bs S) (hkl : k ≤ bs.length) (tm : Int) : Calls Try.prog 42 #[ofV bs k, .int .i64 tm] w fun e w' => e = .returned (.tuple #[.int .i64 (atP tm (ptsS k S)).1, .bool (hasT tm (ptsS k S))]) ∧ Below w.heap.size w w' := by
  by_cases h0 : k = 0
  · subst h0
    exact bat_nil w tm
  · have hj : k - 1 < bs.length := by omega
    have hj' : k - 1 < S.length := by rw [← h.len]; exact hj
    have hb := h.buf (k - 1) hj hj'
    have e1 : ofV bs k = bptr bs[k - 1] := by unfold ofV; rw [if_neg h0, List.getD_eq_getElem?_getD, List.getElem?_eq_getElem hj]; rfl
    have e2 : ptsS k S = S[k - 1].2 := by unfold ptsS; rw [if_neg h0, List.getD_eq_getElem?_getD, List.getElem?_eq_getElem hj']; rfl
    rw [e1, e2, ← atP_snd]
    exact bAt_any tm hb
theorem len_of (h : IntC w F own i la mo pa t v bs S) (hkl : k ≤ bs.length) : Calls Try.prog 44 #[ofV bs k] w fun e w' => e = .returned (.int .i64 ((ptsS k S).length : Int)) ∧ Below w.heap.size w w' := by
  by_cases h0 : k = 0
  · subst h0
    exact blen_nil w
  · have hj : k - 1 < bs.length := by omega
    have hj' : k - 1 < S.length := by rw [← h.len]; exact hj
    have hb := h.buf (k - 1) hj hj'
    have e1 : ofV bs k = bptr bs[k - 1] := by unfold ofV; rw [if_neg h0, List.getD_eq_getElem?_getD, List.getElem?_eq_getElem hj]; rfl
    have e2 : ptsS k S = S[k - 1].2 := by unfold ptsS; rw [if_neg h0, List.getD_eq_getElem?_getD, List.getElem?_eq_getElem hj']; rfl
    rw [e1, e2]
    exact len_go rfl hb
set_option maxRecDepth 100000 in
theorem may3_any (h : IntC w F own i la mo pa t v bs S) (hk : IkOk la mo pa S) (hn : L.length = n) (hr : RdLb w A L) (hE : serE m L = 0) (hS : smallS m L) (hi : idK (seK (m, L)) (S.map (·.1)) = k) (h1 : w.heap[b1]? = some (smB m A n c tm x)) (h0 : w.heap[b0]? = some (ipB i)) :
    Calls Try.prog 40 #[.pointer (some ⟨b0, 0, none⟩), .pointer (some ⟨b1, 0, none⟩)] w fun e w' => e = .returned (.int .i64 (thereE k tm S)) ∧ Below w.heap.size w w' := by
  have hkl : k ≤ bs.length := by have := idK_le (seK (m, L)) (S.map (·.1)); rw [hi, List.length_map] at this; rw [h.len]; exact this
  have CO := Lib.hid (fun W (hb : Below w.heap.size w W) => mof_any (c := c) (h.below hb) hk hn (hr.below hb) hE hS hi)
  have CA := Lib.hid (fun W (hb : Below w.heap.size w W) => at_of (h.below hb) hkl tm)
  have H1 := Lib.hid h1
  have H0 := Lib.hid h0
  obtain ⟨V, hV⟩ : ∃ V, ofV bs k = V := ⟨_, rfl⟩
  obtain ⟨u, hu⟩ : ∃ u, (atP tm (ptsS k S)).1 = u := ⟨_, rfl⟩
  obtain ⟨b, hb⟩ : ∃ b, hasT tm (ptsS k S) = b := ⟨_, rfl⟩
  obtain ⟨E, hE2⟩ : ∃ E, thereE k tm S = E := ⟨_, rfl⟩
  have HE : Hid (E = if b = true then 7 else 0) := Lib.hid (by rw [← hE2, ← hb]; rfl)
  rw [hV] at CO CA
  rw [hu, hb] at CA
  rw [hE2]
  clear h hk hn hr hE hS hi h1 h0 hV hu hb hE2 hkl
  go_enter Try.func40, Try.ntmps40
  go_wp2_with fail
  refine wp_region_here 12 [(0, false), (1, false), (2, false), (3, false), (4, false), (5, false), (6, false), (7, false), (8, false), (9, false), (10, false), (11, false)] (fun _ => .cells #[] 0) (by kernel_rfl) (by kernel_rfl) ?_
  repeat (first | (refine wpP_q rfl rfl rfl ?_; apply Exists.intro; refine ⟨fun w' hw' => ?_, fun K hK => ?_⟩; (focus ((have k0 := cellAt (o := 0) (v := iptr i) (keepB H0.out hw') rfl; have q1 := keepB H1.out hw'; have d0 := cellAt (o := 0) q1 rfl; have d1 := cellAt (o := 1) q1 rfl; have d2 := cellAt (o := 2) (v := .int .i64 tm) q1 rfl; clear q1); go_simp; first | exact quiet_value | first | with_reducible exact quiet_enter (CO.out _ hw') | with_reducible exact quiet_enter (CA.out _ hw'))); simp only [Act.put, List.setIfInBounds_toArray, List.set_cons_zero, List.set_cons_succ]; refine hK.out _ ?_; clear hK K) | (refine wpP_skip rfl rfl rfl (fun K hK => ?_); simp only [Act.put, List.setIfInBounds_toArray, List.set_cons_zero, List.set_cons_succ]; refine hK.out _ ?_; clear hK K))
  refine wpP_nil ?_
  intro w2 hb2
  have HB := Lib.hid hb2
  clear hb2 CO CA
  (try simp only [List.drop_succ_cons]); (try simp only [List.drop_zero]); (try simp only [List.drop_nil])
  cases b
  · obtain rfl : E = 0 := HE.out
    go_wp2_with fail
    go_ret
    exact ⟨rfl, HB.out⟩
  · obtain rfl : E = 7 := HE.out
    go_wp2_with fail
    go_ret
    exact ⟨rfl, HB.out⟩
set_option maxRecDepth 100000 in
theorem may4_any (h : IntC w F own i la mo pa t v bs S) (hk : IkOk la mo pa S) (hn : L.length = n) (hr : RdLb w A L) (hE : serE m L = 0) (hS : smallS m L) (hi : idK (seK (m, L)) (S.map (·.1)) = k) (h1 : w.heap[b1]? = some (smB m A n c tm x)) (h0 : w.heap[b0]? = some (ipB i)) :
    Calls Try.prog 43 #[.pointer (some ⟨b0, 0, none⟩), .pointer (some ⟨b1, 0, none⟩)] w fun e w' => e = .returned (.int .i64 (fullE k S)) ∧ Below w.heap.size w w' := by
  have hkl : k ≤ bs.length := by have := idK_le (seK (m, L)) (S.map (·.1)); rw [hi, List.length_map] at this; rw [h.len]; exact this
  have CO := Lib.hid (mof_any (c := c) h hk hn hr hE hS hi)
  have CL := Lib.hid (fun W (hb : Below w.heap.size w W) => len_of (h.below hb) hkl)
  have CT := Lib.hid (fun W (hb : Below w.heap.size w W) => tlen_any (n := S.length) ((TabO.obj _ _).below h.tab hb) (by rw [List.length_map]))
  have HI := Lib.hid h.box
  have H1 := Lib.hid h1
  have H0 := Lib.hid h0
  obtain ⟨V, hV⟩ : ∃ V, ofV bs k = V := ⟨_, rfl⟩
  obtain ⟨N, hN⟩ : ∃ N, (ptsS k S).length = N := ⟨_, rfl⟩
  obtain ⟨M, hM⟩ : ∃ M, S.length = M := ⟨_, rfl⟩
  obtain ⟨E, hE2⟩ : ∃ E, fullE k S = E := ⟨_, rfl⟩
  have HE : Hid (E = if (k = 0 ∧ M = 1024) ∨ N = 65536 then 3 else 0) := Lib.hid (by rw [← hE2, ← hN, ← hM]; rfl)
  have hVk : (k = 0 ∧ V = .pointer none) ∨ (¬ k = 0 ∧ ∃ b, V = bptr b) := by
    rw [← hV]
    by_cases hk0 : k = 0
    · exact .inl ⟨hk0, by unfold ofV; rw [if_pos hk0]⟩
    · exact .inr ⟨hk0, _, by unfold ofV; rw [if_neg hk0]⟩
  rw [hV] at CO CL
  rw [hN] at CL
  rw [hM] at CT
  rw [hE2]
  clear h hk hn hr hE hS hi hV hN hM hE2 hkl
  have k0 := cellAt (o := 0) (v := iptr i) h0 rfl
  have d0 := cellAt (o := 0) h1 rfl
  have d1 := cellAt (o := 1) h1 rfl
  clear h0 h1
  go_enter Try.func43, Try.ntmps43
  go_wp2_with fail
  refine CO.out.mono ?_
  rintro e w1 ⟨rfl, hb⟩
  have HB := Lib.hid hb
  have HI1 := Lib.hid (keepB HI.out hb)
  have H11 := Lib.hid (keepB H1.out hb)
  have H01 := Lib.hid (keepB H0.out hb)
  clear hb k0 d0 d1 CO
  rcases hVk with ⟨hk0, rfl⟩ | ⟨hk0, b, rfl⟩
  · have k0 := cellAt (o := 0) (v := iptr i) H01.out rfl
    have k4 := cellAt (o := 4) (v := tptr t) HI1.out rfl
    go_wp2_with fail
    refine (CT.out _ HB.out).mono ?_
    rintro e w2 ⟨rfl, rfl⟩
    by_cases hM : M = 1024
    · have e : E = 3 := by rw [HE.out, if_pos (.inl ⟨hk0, hM⟩)]
      subst e
      have hMb : ((M : Int) == 1024) = true := beq_iff_eq.2 (by omega)
      have hMd : decide ((M : Int) = 1024) = true := decide_eq_true (by omega)
      clear HE
      go_wp2_with fail
      go_ret
      exact ⟨rfl, HB.out⟩
    · have hMb : ((M : Int) == 1024) = false := beq_eq_false_iff_ne.2 (by omega)
      have hMd : decide ((M : Int) = 1024) = false := decide_eq_false (by omega)
      go_wp2_with fail
      have hNo : ¬ (k = 0 ∧ M = 1024) := fun e => hM e.2
      refine (CL.out _ HB.out).mono ?_
      rintro e w2 ⟨rfl, hb2⟩
      have HB2 := Lib.hid (HB.out.trans (hb2.mono HB.out.size))
      clear hb2
      by_cases hN : N = 65536
      · have e : E = 3 := by rw [HE.out, if_pos (.inr hN)]
        subst e
        have hNb : ((N : Int) == 65536) = true := beq_iff_eq.2 (by omega)
        have hNd : decide ((N : Int) = 65536) = true := decide_eq_true (by omega)
        clear HE
        go_wp2_with fail
        go_ret
        exact ⟨rfl, HB2.out⟩
      · have e : E = 0 := by rw [HE.out, if_neg (fun h => h.elim hNo hN)]
        subst e
        have hNb : ((N : Int) == 65536) = false := beq_eq_false_iff_ne.2 (by omega)
        have hNd : decide ((N : Int) = 65536) = false := decide_eq_false (by omega)
        clear HE
        go_wp2_with fail
        go_ret
        exact ⟨rfl, HB2.out⟩
  · go_wp2_with fail
    have hNo : ¬ (k = 0 ∧ M = 1024) := fun e => hk0 e.1
    refine (CL.out _ HB.out).mono ?_
    rintro e w2 ⟨rfl, hb2⟩
    have HB2 := Lib.hid (HB.out.trans (hb2.mono HB.out.size))
    clear hb2
    by_cases hN : N = 65536
    · have e : E = 3 := by rw [HE.out, if_pos (.inr hN)]
      subst e
      have hNb : ((N : Int) == 65536) = true := beq_iff_eq.2 (by omega)
      have hNd : decide ((N : Int) = 65536) = true := decide_eq_true (by omega)
      clear HE
      go_wp2_with fail
      go_ret
      exact ⟨rfl, HB2.out⟩
    · have e : E = 0 := by rw [HE.out, if_neg (fun h => h.elim hNo hN)]
      subst e
      have hNb : ((N : Int) == 65536) = false := beq_eq_false_iff_ne.2 (by omega)
      have hNd : decide ((N : Int) = 65536) = false := decide_eq_false (by omega)
      clear HE
      go_wp2_with fail
      go_ret
      exact ⟨rfl, HB2.out⟩
end
end Go.Proofs.Ytangcgfchalnaaa
