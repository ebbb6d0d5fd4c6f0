/- A bag and the reference's one, in one world; waterwheelkit.Often; 'same'. -/
import Derived.Test.YtjcbikkihijkiaaRbD
namespace Go.Proofs.Ytjcbikkihijkiaa
open Go.RowKit
set_option maxHeartbeats 4000000 in
set_option maxRecDepth 100000 in
theorem koften_any {w : World} {b1 b2 : Nat} {A C : Option Addr} {c d : Nat} {L : List (Int × Nat)} (h1 : w.ownsRow b1 34 2 (.slice A L.length c) L.length (oftF L)) (h2 : w.ownsRow b2 34 2 (.slice C L.length d) L.length (oftF L)) (hl : L.length ≤ 1000000) :
    Calls Try.prog 21 #[.slice A L.length c, .slice C L.length d] w fun e w' => e = .returned (.bool true) ∧ Below w.heap.size w w' := by
  obtain ⟨N, hN⟩ : ∃ N, L.length = N := ⟨_, rfl⟩
  have HN := Lib.hid hN
  have H1 := Lib.hid h1
  have H2 := Lib.hid h2
  rw [hN] at hl ⊢
  clear h1 h2 hN
  go_enter Try.func21, Try.ntmps21
  go_wp2_with fail
  go_loopw [5] (fun v5 wr => ∃ k : Nat, v5 = .int .i64 (k : Int) ∧ k ≤ N ∧ Hid (Below w.heap.size w wr)) (fun v5 _ => N - (intOf v5).toNat)
  case atStart => exact ⟨0, rfl, Nat.zero_le _, Lib.hid (Below.refl _ _)⟩
  case round =>
    obtain ⟨k, rfl, hk, HB⟩ := hrel
    by_cases h0 : k < N
    · have hkL : k < L.length := by rw [HN.out]; exact h0
      obtain ⟨g1, rfl⟩ := ownsRow_at H1.out (by omega)
      obtain ⟨g2, rfl⟩ := ownsRow_at H2.out (by omega)
      have HC1 := Lib.hid (fun (W : World) (hb : Below wr.heap.size wr W) => oft_cell (own_bel H1.out (HB.out.trans (hb.mono HB.out.size))) hkL)
      have HC2 := Lib.hid (fun (W : World) (hb : Below wr.heap.size wr W) => oft_cell (own_bel H2.out (HB.out.trans (hb.mono HB.out.size))) hkL)
      obtain ⟨⟨pn, pk⟩, hp⟩ : ∃ p, L[k] = p := ⟨_, rfl⟩
      rw [hp] at HC1 HC2
      have hw : IntKind.i64.wrap ((k : Int) + 1) = ((k + 1 : Nat) : Int) := by rw [IntKind.wrap_i64]; omega
      clear hp hkL
      go_wp2_with fail
      refine wp_region_here 9 [(0, false), (1, false), (2, false), (3, false), (4, false), (5, false), (6, false), (7, false), (8, false)] (fun _ => .cells #[] 0) (by kernel_rfl) (by kernel_rfl) ?_
      repeat (first | (refine wpP_q rfl rfl rfl ?_; apply Exists.intro; refine ⟨fun w' hw' => ?_, fun K hK => ?_⟩; (focus ((obtain ⟨z0, z1⟩ := HC1.out _ hw'; obtain ⟨y0, y1⟩ := HC2.out _ hw'); go_simp; first | exact quiet_value | fail)); simp only [Act.put, List.setIfInBounds_toArray, List.set_cons_zero, List.set_cons_succ]; refine hK.out _ ?_; clear hK K) | (refine wpP_skip rfl rfl rfl (fun K hK => ?_); simp only [Act.put, List.setIfInBounds_toArray, List.set_cons_zero, List.set_cons_succ]; refine hK.out _ ?_; clear hK K) | (refine wpP_skipu rfl rfl rfl (fun K hK => ?_); simp only [Act.put, List.setIfInBounds_toArray, List.set_cons_zero, List.set_cons_succ]; refine hK.out _ ?_; clear hK K))
      refine wpP_nil ?_
      intro w2 hb2
      have HB2 := Lib.hid (HB.out.trans (hb2.mono HB.out.size))
      clear hb2
      try simp only [List.drop_succ_cons, List.drop_nil]
      go_wp2_with fail
      go_roundw
      case rel => exact ⟨k + 1, rfl, by omega, HB2⟩
      case measure => simp [intOf]; omega
    · obtain rfl : k = N := by omega
      go_wp2_with fail
      go_ret
      exact ⟨rfl, HB.out⟩
/-- Both, each in memory of its own, behind block n₀. -/
def DuoB (w : World) (n₀ b r : Nat) (L1 : List (Int × Nat)) (o1 : Nat) (L2 : List (Int × Nat)) (o2 : Nat) : Prop :=
  ∃ F G : Nat → Prop, BagL w F b L1 o1 ∧ RfB w G r L2 o2 ∧ (∀ k, ¬ (F k ∧ G k)) ∧ (∀ k, F k → n₀ ≤ k ∧ k < w.heap.size) ∧ ∀ k, G k → n₀ ≤ k ∧ k < w.heap.size
section
variable {w w' : World} {n₀ b r o1 o2 : Nat} {L1 L2 : List (Int × Nat)}
theorem DuoB.below (h : DuoB w n₀ b r L1 o1 L2 o2) (hb : Below w.heap.size w w') : DuoB w' n₀ b r L1 o1 L2 o2 := by
  obtain ⟨F, G, h1, h2, h3, h4, h5⟩ := h
  exact ⟨F, G, h1.below hb, h2.below hb, h3, fun k hk => ⟨(h4 k hk).1, Nat.lt_of_lt_of_le (h4 k hk).2 hb.size⟩, fun k hk => ⟨(h5 k hk).1, Nat.lt_of_lt_of_le (h5 k hk).2 hb.size⟩⟩
theorem DuoB.op1 {x : Int} {L' : List (Int × Nat)} {o' f : Nat} {args : Array Value} (h : DuoB w n₀ b r L1 o1 L2 o2) (hn : n₀ ≤ w.heap.size)
    (hop : ∀ F, BagL w F b L1 o1 → Calls Try.prog f args w fun e w' => e = .returned (.int .i64 x) ∧ BagGL w F b L' o' w') :
    Calls Try.prog f args w fun e w' => e = .returned (.int .i64 x) ∧ DuoB w' n₀ b r L' o' L2 o2 ∧ Below n₀ w w' := by
  obtain ⟨F, G, h1, h2, h3, h4, h5⟩ := h
  refine (hop F h1).mono ?_
  rintro e w' ⟨he, F', k1, k2, ho⟩
  refine ⟨he, ⟨F', G, k1, h2.keep ho (fun k hg _ hf => h3 k ⟨hf, hg⟩), fun k hk => ?_, fun k hk => ⟨?_, (k2 k hk).2⟩, fun k hk => ⟨(h5 k hk).1, Nat.lt_of_lt_of_le (h5 k hk).2 ho.size⟩⟩, ho.below (fun k hk => (h4 k hk).1) hn⟩
  · rcases (k2 k hk.1).1 with hx | hx
    · exact h3 k ⟨hx, hk.2⟩
    · have := (h5 k hk.2).2; omega
  · rcases (k2 k hk).1 with hx | hx
    · exact (h4 k hx).1
    · omega
theorem DuoB.op2 {x : Int} {L' : List (Int × Nat)} {o' f : Nat} {args : Array Value} (h : DuoB w n₀ b r L1 o1 L2 o2) (hn : n₀ ≤ w.heap.size)
    (hop : ∀ G, RfB w G r L2 o2 → Calls Try.prog f args w fun e w' => e = .returned (.int .i64 x) ∧ RfG w G r L' o' w') :
    Calls Try.prog f args w fun e w' => e = .returned (.int .i64 x) ∧ DuoB w' n₀ b r L1 o1 L' o' ∧ Below n₀ w w' := by
  obtain ⟨F, G, h1, h2, h3, h4, h5⟩ := h
  refine (hop G h2).mono ?_
  rintro e w' ⟨he, G', k1, k2, ho⟩
  refine ⟨he, ⟨F, G', h1.keep ho (fun k hf _ hg => h3 k ⟨hf, hg⟩), k1, fun k hk => ?_, fun k hk => ⟨(h4 k hk).1, Nat.lt_of_lt_of_le (h4 k hk).2 ho.size⟩, fun k hk => ⟨?_, (k2 k hk).2⟩⟩, ho.below (fun k hk => (h5 k hk).1) hn⟩
  · rcases (k2 k hk.2).1 with hx | hx
    · exact h3 k ⟨hk.1, hx⟩
    · have := (h4 k hk.1).2; omega
  · rcases (k2 k hk).1 with hx | hx
    · exact (h5 k hx).1
    · omega
theorem DuoB.bag {R : Ending → World → Prop} {f : Nat} {args : Array Value} (h : DuoB w n₀ b r L1 o1 L2 o2) (hc : ∀ F, BagL w F b L1 o1 → Calls Try.prog f args w R) : Calls Try.prog f args w R := by
  obtain ⟨F, G, h1, _⟩ := h; exact hc F h1
theorem DuoB.ref {R : Ending → World → Prop} {f : Nat} {args : Array Value} (h : DuoB w n₀ b r L1 o1 L2 o2) (hc : ∀ G, RfB w G r L2 o2 → Calls Try.prog f args w R) : Calls Try.prog f args w R := by
  obtain ⟨F, G, _, h2, _⟩ := h; exact hc G h2
theorem DuoB.ok (h : DuoB w n₀ b r L1 o1 L2 o2) : OkL L1 := by
  obtain ⟨F, G, ⟨T, _, rfl, h3⟩, _⟩ := h; exact h3
end
set_option maxHeartbeats 4000000 in
set_option maxRecDepth 100000 in
theorem same_any {w : World} {n₀ b r o : Nat} {L : List (Int × Nat)} (n : Int) (h : DuoB w n₀ b r L o L o) (hb : o + sumL L ≤ 100000) :
    Calls Try.prog 20 #[.pointer (some ⟨b, 0, none⟩), .pointer (some ⟨r, 0, none⟩), .int .i64 n] w fun e w' => e = .returned (.bool true) ∧ Below w.heap.size w w' := by
  have hok := h.ok
  have hlen := len_sumL hok.one
  obtain ⟨ox, nx, ix, hx⟩ : ∃ ox nx ix, endLs L o (loL L) = (ox, nx, ix) := ⟨_, _, _, rfl⟩
  obtain ⟨oy, ny, iy, hy⟩ : ∃ ox nx ix, endLs L o (hiL L) = (ox, nx, ix) := ⟨_, _, _, rfl⟩
  have C1 := Lib.hid (fun W (h : DuoB W n₀ b r L o L o) => h.bag (fun F h => by have := bleast_L h (by omega); rw [hx] at this; exact this))
  have C2 := Lib.hid (fun W (h : DuoB W n₀ b r L o L o) => h.ref (fun F h => by have := rleast_any h (by omega); rw [show rendLs L o false = (ox, nx, ix) from hx] at this; exact this))
  have C3 := Lib.hid (fun W (h : DuoB W n₀ b r L o L o) => h.bag (fun F h => by have := bmost_L h (by omega); rw [hy] at this; exact this))
  have C4 := Lib.hid (fun W (h : DuoB W n₀ b r L o L o) => h.ref (fun F h => by have := rmost_any h (by omega); rw [show rendLs L o true = (oy, ny, iy) from hy] at this; exact this))
  obtain ⟨t, ht⟩ : ∃ t, o + sumL L = t := ⟨_, rfl⟩
  obtain ⟨pl, hpl⟩ : ∃ t, lowL n L = t := ⟨_, rfl⟩
  obtain ⟨cn, hcn⟩ : ∃ t, cntL n L = t := ⟨_, rfl⟩
  have C5 := Lib.hid (fun W (h : DuoB W n₀ b r L o L o) => h.bag (fun F h => by have := blen_L h (by omega); rw [ht] at this; exact this))
  have C6 := Lib.hid (fun W (h : DuoB W n₀ b r L o L o) => h.ref (fun F h => by have := rlen_any h hok (by omega); rw [ht] at this; exact this))
  have C7 := Lib.hid (fun W (h : DuoB W n₀ b r L o L o) => h.bag (fun F h => by have := bplace_L n h (by omega); rw [hpl] at this; exact this))
  have C8 := Lib.hid (fun W (h : DuoB W n₀ b r L o L o) => h.ref (fun F h => by have := rplace_any n h hok (by omega); rw [hpl] at this; exact this))
  have C9 := Lib.hid (fun W (h : DuoB W n₀ b r L o L o) => h.bag (fun F h => by have := bcount_L n false h; rw [show cntLs n false L o = cntL n L from rfl, hcn] at this; exact this))
  have C0 := Lib.hid (fun W (h : DuoB W n₀ b r L o L o) => h.ref (fun F h => by have := rcount_any n false h hok (by omega); rw [show cntLs n false L o = cntL n L from rfl, hcn] at this; exact this))
  have HD := Lib.hid h
  have HB := Lib.hid (Below.refl w.heap.size w)
  unfold endP at C1 C2 C3 C4
  simp only at C1 C2 C3 C4
  clear hx hy ht hpl hcn hok hlen hb h
  go_enter Try.func20, Try.ntmps20
  go_wp2_with fail
  refine (C1.out _ HD.out).mono ?_
  rintro e w1 ⟨rfl, hb⟩
  have hb3 := hb.trans ((below_alloc (Below.refl w1.heap.size w1) (Obj.cells #[.int .i64 (nx), .bool ox] 29)).mono hb.size)
  replace HD := Lib.hid (HD.out.below hb3)
  replace HB := Lib.hid (HB.out.trans (hb3.mono HB.out.size))
  have X1 := Lib.hid (newB w1 (Obj.cells #[.int .i64 (nx), .bool ox] 29))
  obtain ⟨x1, hx1⟩ : ∃ x, w1.heap.size = x := ⟨_, rfl⟩
  rw [hx1] at X1
  clear hb hb3
  go_wp2_with fail
  clear hx1
  refine (C2.out _ HD.out).mono ?_
  rintro e w2 ⟨rfl, hb⟩
  have hb3 := hb.trans ((below_alloc (Below.refl w2.heap.size w2) (Obj.cells #[.int .i64 (nx), .bool ox] 29)).mono hb.size)
  replace HD := Lib.hid (HD.out.below hb3)
  replace HB := Lib.hid (HB.out.trans (hb3.mono HB.out.size))
  replace X1 := Lib.hid (keepB X1.out hb3)
  have X2 := Lib.hid (newB w2 (Obj.cells #[.int .i64 (nx), .bool ox] 29))
  obtain ⟨x2, hx2⟩ : ∃ x, w2.heap.size = x := ⟨_, rfl⟩
  rw [hx2] at X2
  clear hb hb3
  go_wp2_with fail
  clear hx2
  refine (C3.out _ HD.out).mono ?_
  rintro e w3 ⟨rfl, hb⟩
  have hb3 := hb.trans ((below_alloc (Below.refl w3.heap.size w3) (Obj.cells #[.int .i64 (ny), .bool oy] 29)).mono hb.size)
  replace HD := Lib.hid (HD.out.below hb3)
  replace HB := Lib.hid (HB.out.trans (hb3.mono HB.out.size))
  replace X1 := Lib.hid (keepB X1.out hb3)
  replace X2 := Lib.hid (keepB X2.out hb3)
  have X3 := Lib.hid (newB w3 (Obj.cells #[.int .i64 (ny), .bool oy] 29))
  obtain ⟨x3, hx3⟩ : ∃ x, w3.heap.size = x := ⟨_, rfl⟩
  rw [hx3] at X3
  clear hb hb3
  go_wp2_with fail
  clear hx3
  refine (C4.out _ HD.out).mono ?_
  rintro e w4 ⟨rfl, hb⟩
  have hb3 := hb.trans ((below_alloc (Below.refl w4.heap.size w4) (Obj.cells #[.int .i64 (ny), .bool oy] 29)).mono hb.size)
  replace HD := Lib.hid (HD.out.below hb3)
  replace HB := Lib.hid (HB.out.trans (hb3.mono HB.out.size))
  replace X1 := Lib.hid (keepB X1.out hb3)
  replace X2 := Lib.hid (keepB X2.out hb3)
  replace X3 := Lib.hid (keepB X3.out hb3)
  have X4 := Lib.hid (newB w4 (Obj.cells #[.int .i64 (ny), .bool oy] 29))
  obtain ⟨x4, hx4⟩ : ∃ x, w4.heap.size = x := ⟨_, rfl⟩
  rw [hx4] at X4
  clear hb hb3
  have a0 := cellAt (o := 0) X1.out rfl
  have a1 := cellAt (o := 1) X1.out rfl
  have b0 := cellAt (o := 0) X2.out rfl
  have b1 := cellAt (o := 1) X2.out rfl
  have c0 := cellAt (o := 0) X3.out rfl
  have c1 := cellAt (o := 1) X3.out rfl
  have d0 := cellAt (o := 0) X4.out rfl
  have d1 := cellAt (o := 1) X4.out rfl
  go_wp2_with fail
  clear a0 a1 b0 b1 c0 c1 d0 d1
  refine (C5.out _ HD.out).mono ?_; rintro e w5 ⟨rfl, hb⟩; replace HD := Lib.hid (HD.out.below hb); replace HB := Lib.hid (HB.out.trans (hb.mono HB.out.size)); clear hb; go_wp2_with fail
  refine (C6.out _ HD.out).mono ?_; rintro e w5 ⟨rfl, hb⟩; replace HD := Lib.hid (HD.out.below hb); replace HB := Lib.hid (HB.out.trans (hb.mono HB.out.size)); clear hb; go_wp2_with fail
  refine (C7.out _ HD.out).mono ?_; rintro e w5 ⟨rfl, hb⟩; replace HD := Lib.hid (HD.out.below hb); replace HB := Lib.hid (HB.out.trans (hb.mono HB.out.size)); clear hb; go_wp2_with fail
  refine (C8.out _ HD.out).mono ?_; rintro e w5 ⟨rfl, hb⟩; replace HD := Lib.hid (HD.out.below hb); replace HB := Lib.hid (HB.out.trans (hb.mono HB.out.size)); clear hb; go_wp2_with fail
  refine (C9.out _ HD.out).mono ?_; rintro e w5 ⟨rfl, hb⟩; replace HD := Lib.hid (HD.out.below hb); replace HB := Lib.hid (HB.out.trans (hb.mono HB.out.size)); clear hb; go_wp2_with fail
  refine (C0.out _ HD.out).mono ?_; rintro e w5 ⟨rfl, hb⟩; replace HD := Lib.hid (HD.out.below hb); replace HB := Lib.hid (HB.out.trans (hb.mono HB.out.size)); clear hb; go_wp2_with fail
  go_ret
  exact ⟨rfl, HB.out⟩
end Go.Proofs.Ytjcbikkihijkiaa
