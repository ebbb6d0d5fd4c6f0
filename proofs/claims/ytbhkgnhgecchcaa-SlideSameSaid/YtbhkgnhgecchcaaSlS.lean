/- A slide of the call's own; lives. -/
import Derived.Test.YtbhkgnhgecchcaaSlR
namespace Go.Proofs.Ytbhkgnhgecchcaa
open Go.RowKit
/-- A slide in memory of F: all of it from block B on. -/
structure SlB (w : World) (B s : Nat) (fn span : Int) (σ : Slst) (F : Nat → Prop) : Prop where
  sl : SlideW w F s fn span σ.time σ.pts σ.k
  lo : ∀ k, F k → B ≤ k
  hi : ∀ k, F k → k < w.heap.size
structure Fine (σ : Slst) (c : Nat) : Prop where
  fit : Fit σ
  len : σ.pts.length ≤ c
  kk : σ.k ≤ c
section
variable {w w' w'' : World} {F S : Nat → Prop} {B s c : Nat} {fn span : Int} {σ : Slst}
theorem SlB.fs (h : SlB w B s fn span σ F) : F s := h.sl.1
theorem SlB.le (h : SlB w B s fn span σ F) : B ≤ w.heap.size := Nat.le_of_lt (Nat.lt_of_le_of_lt (h.lo s h.fs) (h.hi s h.fs))
theorem SlB.keep (h : SlB w B s fn span σ F) (ho : Only S w w') (hn : ∀ k, F k → k < w.heap.size → ¬ S k) : SlB w' B s fn span σ F := ⟨h.sl.keep ho hn, h.lo, fun k hk => Nat.lt_of_lt_of_le (h.hi k hk) ho.size⟩
theorem SlB.below (h : SlB w B s fn span σ F) (hb : Below w.heap.size w w') : SlB w' B s fn span σ F := h.keep (S := fun _ => False) (Only.of_below hb) (fun _ _ _ h => h)
theorem SlB.bel (h : SlB w B s fn span σ F) (hb : Only F w w') : Below B w w' := hb.below h.lo h.le
theorem gone_len (b : Int) (P : List Pt) : (gone b P).length ≤ P.length := (List.dropWhile_suffix _).length_le
theorem Fine.le {d : Nat} (h : Fine σ c) (hd : c ≤ d) : Fine σ d := ⟨h.fit, Nat.le_trans h.len hd, Nat.le_trans h.kk hd⟩
theorem Fine.go (h : Fine σ c) (t : Int) : Fine (stGo span σ t).2 c := by
  refine ⟨h.fit.go t, ?_, ?_⟩
  · unfold stGo; split
    · exact Nat.le_trans (gone_len _ _) h.len
    · exact h.len
  · unfold stGo; split <;> exact h.kk
theorem Fine.push (h : Fine σ c) (hc : c ≤ 1099511627774) (t n : Int) (hn : In64 n) : Fine (stPush span σ t n).2 (c + 1) := by
  refine ⟨h.fit.push t n hn (Nat.le_trans h.len hc), ?_, ?_⟩
  · unfold stPush; split
    · refine Nat.le_trans (gone_len _ _) ?_
      have := h.len; simp; omega
    · exact Nat.le_succ_of_le h.len
  · unfold stPush; split
    · exact Nat.succ_le_succ h.kk
    · exact Nat.le_succ_of_le h.kk
theorem Fine.zero : Fine ⟨0, [], 0⟩ 0 := by
  refine ⟨⟨⟨List.Pairwise.nil, ?_, ?_, ?_⟩, ?_, ?_, ?_⟩, ?_, ?_⟩ <;> simp
end
def OpP (B s : Nat) (fn span : Int) (F : Nat → Prop) (r : Int × Slst) (w : World) (e : Ending) (w' : World) : Prop :=
  e = .returned (.int .i64 r.1) ∧ (∃ F', SlB w' B s fn span r.2 F' ∧ ∀ k, F' k → F k ∨ w.heap.size ≤ k) ∧ Only F w w'
theorem MeP.op {B s : Nat} {fn span : Int} {F : Nat → Prop} {r : Int × Slst} {σ : Slst} {w w' : World} {e : Ending} (h : MeP F s fn span r w e w') (hs : SlB w B s fn span σ F) : OpP B s fn span F r w e w' :=
  ⟨h.1, ⟨fun k => (F k ∨ w.heap.size ≤ k) ∧ k < w'.heap.size, ⟨h.2.1.weak (fun _ hk h => ⟨h, hk⟩), fun k hk => hk.1.elim (hs.lo k) (Nat.le_trans hs.le), fun _ hk => hk.2⟩, fun _ hk => hk.1⟩, h.2.2⟩
section
variable {w : World} {F : Nat → Prop} {B s c : Nat} {fn span : Int} {σ : Slst}
theorem push_b (h : SlB w B s fn span σ F) (hf : Fine σ c) (hc : c ≤ 1099511627774) (t n : Int) (hn : In64 n) (hs : 1 ≤ span ∧ span ≤ 1073741824) (r : Int × Slst) (hr : stPush span σ t n = r) :
    Calls Try.prog 11 #[.pointer (some ⟨s, 0, none⟩), .int .i64 t, .int .i64 n] w (OpP B s fn span F r w) :=
  hr ▸ (push_made h.sl hf.fit t n hn hs.1 hs.2 (Nat.le_trans hf.len hc) (Nat.le_trans hf.kk hc)).mono fun _ _ he => he.op h
theorem go_b (h : SlB w B s fn span σ F) (hf : Fine σ c) (hc : c ≤ 1099511627775) (t : Int) (hs : 1 ≤ span ∧ span ≤ 1073741824) (r : Int × Slst) (hr : stGo span σ t = r) :
    Calls Try.prog 12 #[.pointer (some ⟨s, 0, none⟩), .int .i64 t] w (OpP B s fn span F r w) :=
  hr ▸ (go_made h.sl hf.fit t hs.1 hs.2 (Nat.le_trans hf.kk hc)).mono fun _ _ he => he.op h
theorem value_b (h : SlB w B s fn span σ F) (hf : Fine σ c) (hc : c ≤ 1099511627775) (v : Value) (hv : vvV fn σ.pts = v) : Calls Try.prog 10 #[.pointer (some ⟨s, 0, none⟩)] w fun e w' => e = .returned v ∧ Below w.heap.size w w' :=
  hv ▸ value_made h.sl (Nat.le_trans hf.len hc)
end
theorem new_b {fn span : Int} (ho : okNew fn span) (w : World) : Calls Try.prog 17 #[.int .i64 fn, .int .i64 span] w fun e w' => ∃ s F, e = .returned (.tuple #[.pointer (some ⟨s, 0, none⟩), .int .i64 0]) ∧ SlB w' w.heap.size s fn span ⟨0, [], 0⟩ F ∧ Below w.heap.size w w' :=
  (snew_any fn span w).mono fun e w' h => by
    rcases h with ⟨_, s, he, hs, hb⟩ | ⟨hn, _⟩
    · exact ⟨s, fun k => w.heap.size ≤ k ∧ k < w'.heap.size, he, ⟨hs.weak (fun k hk h => ⟨h, hk⟩), fun k hk => hk.1, fun k hk => hk.2⟩, hb⟩
    · exact absurd ho hn
theorem lv1 : stPush 5 ⟨0, [], 0⟩ 1 7 = (0, ⟨1, [(1, 7)], 1⟩) := by rfl
theorem lv2 : stPush 5 ⟨1, [(1, 7)], 1⟩ 2 4 = (0, ⟨2, [(1, 7), (2, 4)], 2⟩) := by rfl
theorem lv3 : stPush 5 ⟨2, [(1, 7), (2, 4)], 2⟩ 4 9 = (0, ⟨4, [(1, 7), (2, 4), (4, 9)], 3⟩) := by rfl
theorem lv4 : stGo 5 ⟨4, [(1, 7), (2, 4), (4, 9)], 3⟩ 7 = (0, ⟨7, [(4, 9)], 3⟩) := by rfl
theorem lv5 : stGo 5 ⟨7, [(4, 9)], 3⟩ 9 = (0, ⟨9, [], 3⟩) := by rfl
theorem lvA : vvV 3 [(1, 7), (2, 4), (4, 9)] = .tuple #[.agg #[.int .i64 4, .bool false], .bool true] := by simp [vvV, wv, sfx, aheadN]
theorem lvB : vvV 3 [(4, 9)] = .tuple #[.agg #[.int .i64 9, .bool false], .bool true] := by simp [vvV, wv, sfx, aheadN]
theorem lvC : vvV 3 [] = .tuple #[.agg #[.int .i64 0, .bool false], .bool false] := by simp [vvV]
theorem fn1 : Fine ⟨1, [(1, 7)], 1⟩ 1 := by have := Fine.zero.push (span := 5) (by omega) 1 7 (by unfold In64; omega); rwa [lv1] at this
theorem fn2 : Fine ⟨2, [(1, 7), (2, 4)], 2⟩ 2 := by have := fn1.push (span := 5) (by omega) 2 4 (by unfold In64; omega); rwa [lv2] at this
theorem fn3 : Fine ⟨4, [(1, 7), (2, 4), (4, 9)], 3⟩ 3 := by have := fn2.push (span := 5) (by omega) 4 9 (by unfold In64; omega); rwa [lv3] at this
theorem fn4 : Fine ⟨7, [(4, 9)], 3⟩ 3 := by have := fn3.go (span := 5) 7; rwa [lv4] at this
theorem fn5 : Fine ⟨9, [], 3⟩ 3 := by have := fn4.go (span := 5) 9; rwa [lv5] at this
theorem gocell0 {w : World} {b : Nat} {n : Int} {o : Bool} (h : w.heap[b]? = some (.cells #[.int .i64 n, .bool o] 25 (0, 0))) : w.cell? ⟨b, 0, none⟩ = some (.int .i64 n) := cellAt (o := 0) h rfl
set_option maxHeartbeats 4000000 in
set_option maxRecDepth 100000 in
theorem lives_any (w : World) : Calls Try.prog 9 #[] w fun e w' => e = .returned (.bool true) ∧ Below w.heap.size w w' := by
  have HS : 1 ≤ (5 : Int) ∧ (5 : Int) ≤ 1073741824 := by omega
  have C0 := Lib.hid (new_b (fn := 3) (span := 5) (by unfold okNew; omega) w)
  have Q1 := Lib.hid (fun W F s (h : SlB W w.heap.size s 3 5 ⟨0, [], 0⟩ F) => push_b h Fine.zero (by omega) 1 7 (by unfold In64; omega) HS _ lv1)
  have Q2 := Lib.hid (fun W F s (h : SlB W w.heap.size s 3 5 ⟨1, [(1, 7)], 1⟩ F) => push_b h fn1 (by omega) 2 4 (by unfold In64; omega) HS _ lv2)
  have Q3 := Lib.hid (fun W F s (h : SlB W w.heap.size s 3 5 ⟨2, [(1, 7), (2, 4)], 2⟩ F) => push_b h fn2 (by omega) 4 9 (by unfold In64; omega) HS _ lv3)
  have Q4 := Lib.hid (fun W F s (h : SlB W w.heap.size s 3 5 ⟨4, [(1, 7), (2, 4), (4, 9)], 3⟩ F) => value_b h fn3 (by omega) _ lvA)
  have Q5 := Lib.hid (fun W F s (h : SlB W w.heap.size s 3 5 ⟨4, [(1, 7), (2, 4), (4, 9)], 3⟩ F) => go_b h fn3 (by omega) 7 HS _ lv4)
  have Q6 := Lib.hid (fun W F s (h : SlB W w.heap.size s 3 5 ⟨7, [(4, 9)], 3⟩ F) => value_b h fn4 (by omega) _ lvB)
  have Q7 := Lib.hid (fun W F s (h : SlB W w.heap.size s 3 5 ⟨7, [(4, 9)], 3⟩ F) => go_b h fn4 (by omega) 9 HS _ lv5)
  have Q8 := Lib.hid (fun W F s (h : SlB W w.heap.size s 3 5 ⟨9, [], 3⟩ F) => value_b h fn5 (by omega) _ lvC)
  clear HS
  go_enter Try.func9, Try.ntmps9
  go_wp2_with fail
  refine C0.out.mono ?_
  rintro e w1 ⟨s, F, rfl, h1, hb⟩
  have HB := Lib.hid hb
  have H1 := Lib.hid h1
  clear hb h1
  go_wp2_with fail
  refine (Q1.out _ _ _ H1.out).mono ?_
  rintro e w2 ⟨rfl, ⟨F2, h2, _⟩, ho2⟩
  have H2 := Lib.hid h2
  have B2 := Lib.hid (HB.out.trans (H1.out.bel ho2))
  clear h2 ho2
  go_wp2_with fail
  refine (Q2.out _ _ _ H2.out).mono ?_
  rintro e w3 ⟨rfl, ⟨F3, h3, _⟩, ho3⟩
  have H3 := Lib.hid h3
  have B3 := Lib.hid (B2.out.trans (H2.out.bel ho3))
  clear h3 ho3
  go_wp2_with fail
  refine (Q3.out _ _ _ H3.out).mono ?_
  rintro e w4 ⟨rfl, ⟨F4, h4, _⟩, ho4⟩
  have H4 := Lib.hid h4
  have B4 := Lib.hid (B3.out.trans (H3.out.bel ho4))
  clear h4 ho4
  go_wp2_with fail
  refine (Q4.out _ _ _ H4.out).mono ?_
  rintro e w5 ⟨rfl, hb5⟩
  have hb5a := hb5.trans ((below_alloc (Below.refl w5.heap.size w5) (.cells #[.int .i64 4, .bool false] 25)).mono hb5.size)
  have H5 := Lib.hid (H4.out.below hb5a)
  have B5 := Lib.hid (B4.out.trans (hb5a.mono B4.out.size))
  clear hb5 hb5a
  go_wp2_with fail
  refine (Q5.out _ _ _ H5.out).mono ?_
  rintro e w6 ⟨rfl, ⟨F6, h6, _⟩, ho6⟩
  have H6 := Lib.hid h6
  have B6 := Lib.hid (B5.out.trans (H5.out.bel ho6))
  clear h6 ho6
  go_wp2_with fail
  refine (Q6.out _ _ _ H6.out).mono ?_
  rintro e w7 ⟨rfl, hb7⟩
  have hb7a := hb7.trans ((below_alloc (Below.refl w7.heap.size w7) (.cells #[.int .i64 9, .bool false] 25)).mono hb7.size)
  have h7 := H6.out.below hb7a
  have hn7 : ¬ F6 w7.heap.size := fun h => Nat.lt_irrefl _ (Nat.lt_of_lt_of_le (H6.out.hi _ h) hb7.size)
  have X7 := Lib.hid (newB w7 (.cells #[.int .i64 9, .bool false] 25))
  have H7 := Lib.hid h7
  have N7 := Lib.hid hn7
  have B7 := Lib.hid (B6.out.trans (hb7a.mono B6.out.size))
  clear hb7 hb7a h7 hn7
  go_wp2_with fail
  refine (Q7.out _ _ _ H7.out).mono ?_
  rintro e w8 ⟨rfl, ⟨F8, h8, _⟩, ho8⟩
  have X8 := Lib.hid (ho8.get X7.out N7.out)
  have H8 := Lib.hid h8
  have B8 := Lib.hid (B7.out.trans (H7.out.bel ho8))
  clear h8 ho8
  go_wp2_with fail
  refine (Q8.out _ _ _ H8.out).mono ?_
  rintro e w9 ⟨rfl, hb9⟩
  have hb9a := hb9.trans ((below_alloc (Below.refl w9.heap.size w9) (.cells #[.int .i64 0, .bool false] 25)).mono hb9.size)
  have B9 := Lib.hid (B8.out.trans (hb9a.mono B8.out.size))
  have m0 := gocell0 (keepB X8.out hb9a)
  clear hb9 hb9a
  go_wp2_with fail
  go_ret
  exact ⟨rfl, B9.out⟩
end Go.Proofs.Ytbhkgnhgecchcaa
