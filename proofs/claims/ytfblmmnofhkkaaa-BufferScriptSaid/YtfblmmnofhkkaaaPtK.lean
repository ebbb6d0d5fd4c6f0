/- Rows of points: the kit's Points; Pick. -/
import Derived.Test.YtfblmmnofhkkaaaBfS
namespace Go.Proofs.Ytfblmmnofhkkaaa
open Go.RowKit
/-- A point's cells in a row of points of the call's own. -/
theorem or_pt {w w' : World} {base n c : Nat} {A : Option Addr} {L : List Pt} (h : w.ownsRow base 45 3 (.slice A n c) n (pcs L)) (hb : Below w.heap.size w w') {k : Nat} (hk : k < n) (hn : L.length = n) : ∃ g p, A = some ⟨g, 0, none⟩ ∧ L[k]? = some p ∧ g < w.heap.size ∧ PtAt w' g (k * 3) p := by
  obtain ⟨g, rfl⟩ := or_addr h (by omega)
  obtain ⟨h1, h2, h3⟩ := pcs_get L k (by omega)
  have h' := or_below h hb
  refine ⟨g, L[k], rfl, List.getElem?_eq_getElem _, (h.lt g rfl).2, or_cell h' h1, or_cell h' h2, or_cell h' h3⟩
set_option maxHeartbeats 4000000 in
set_option maxRecDepth 100000 in
theorem kpts_any {w : World} {b1 b2 n c d : Nat} {A C : Option Addr} {L : List Pt} (h1 : w.ownsRow b1 45 3 (.slice A n c) n (pcs L)) (h2 : w.ownsRow b2 45 3 (.slice C n d) n (pcs L)) (hn : L.length = n) (hl : n ≤ 1000000) :
    Calls Try.prog 17 #[.slice A n c, .slice C n d] w fun e w' => e = .returned (.bool true) ∧ Below w.heap.size w w' := by
  have HN := Lib.hid hn
  have H1 := Lib.hid h1
  have H2 := Lib.hid h2
  clear h1 h2 hn
  go_enter Try.func17, Try.ntmps17
  go_wp2_with fail
  go_loopw [5] (fun v5 wr => ∃ k : Nat, v5 = .int .i64 (k : Int) ∧ k ≤ n ∧ Hid (Below w.heap.size w wr)) (fun v5 _ => n - (intOf v5).toNat)
  case atStart => exact ⟨0, rfl, Nat.zero_le _, Lib.hid (Below.refl _ _)⟩
  case round =>
    obtain ⟨k, rfl, hk, HB⟩ := hrel
    by_cases h0 : k < n
    · obtain ⟨g1, p, rfl, hp, hg1, hp1⟩ := or_pt H1.out HB.out h0 HN.out
      obtain ⟨g2, p', rfl, hp', hg2, hp2⟩ := or_pt H2.out HB.out h0 HN.out
      obtain rfl : p = p' := Option.some.inj (hp.symm.trans hp')
      have HC1 := Lib.hid (fun (W : World) (hb : Below wr.heap.size wr W) => hp1.below (Nat.lt_of_lt_of_le hg1 HB.out.size) hb)
      have HC2 := Lib.hid (fun (W : World) (hb : Below wr.heap.size wr W) => hp2.below (Nat.lt_of_lt_of_le hg2 HB.out.size) hb)
      obtain ⟨pt, pn⟩ := p
      have hw : IntKind.i64.wrap ((k : Int) + 1) = ((k + 1 : Nat) : Int) := by rw [IntKind.wrap_i64]; omega
      clear hp hp' hp1 hp2 hg1 hg2
      go_wp2_with fail
      refine wp_region_here 9 [(0, false), (1, false), (2, false), (3, false), (4, false), (5, false), (6, false), (7, false), (8, false)] (fun _ => .cells #[] 0) (by kernel_rfl) (by kernel_rfl) ?_
      repeat (first | (refine wpP_q rfl rfl rfl ?_; apply Exists.intro; refine ⟨fun w' hw' => ?_, fun K hK => ?_⟩; (focus ((have z := HC1.out _ hw'; have y := HC2.out _ hw'; unfold PtAt at z y; obtain ⟨z0, z1, z2⟩ := z; obtain ⟨y0, y1, y2⟩ := y); go_simp; first | exact quiet_value | fail)); simp only [Act.put, List.setIfInBounds_toArray, List.set_cons_zero, List.set_cons_succ]; refine hK.out _ ?_; clear hK K) | (refine wpP_skip rfl rfl rfl (fun K hK => ?_); simp only [Act.put, List.setIfInBounds_toArray, List.set_cons_zero, List.set_cons_succ]; refine hK.out _ ?_; clear hK K))
      refine wpP_nil ?_
      intro w2 hb2
      have HB2 := Lib.hid (HB.out.trans (hb2.mono HB.out.size))
      clear hb2
      (try simp only [List.drop_succ_cons]); (try simp only [List.drop_zero]); (try simp only [List.drop_nil])
      go_wp2_with fail
      go_roundw
      case rel => exact ⟨k + 1, rfl, by omega, HB2⟩
      case measure => simp [intOf]; omega
    · obtain rfl : k = n := by omega
      go_wp2_with fail
      go_ret
      exact ⟨rfl, HB.out⟩
/-- Pick's own number. -/
def pickN (n m : Int) : Int := if n.tmod m < 0 then n.tmod m + m else n.tmod m
theorem pickN_in (n : Int) {m : Int} (hm : 1 ≤ m) : 0 ≤ pickN n m ∧ pickN n m < m := by
  have h1 := Int.tmod_lt_of_pos n (show 0 < m by omega)
  have h2 : -m < n.tmod m := by
    have := Int.tmod_lt_of_pos (-n) (show 0 < m by omega)
    rw [Int.neg_tmod] at this; omega
  unfold pickN; split <;> omega
set_option maxRecDepth 100000 in
theorem pick_any (n m : Int) (hm : 1 ≤ m ∧ m ≤ 1099511627776) (w : World) : Calls Try.prog 10 #[.int .i64 n, .int .i64 m] w fun e w' => e = .returned (.int .i64 (pickN n m)) ∧ w = w' := by
  have hm0 : (m == 0) = false := beq_eq_false_iff_ne.2 (by omega)
  have h1 := Int.tmod_lt_of_pos n (show 0 < m by omega)
  have h2 : -m < n.tmod m := by
    have := Int.tmod_lt_of_pos (-n) (show 0 < m by omega)
    rw [Int.neg_tmod] at this; omega
  unfold pickN
  go_enter Try.func10, Try.ntmps10
  go_wp2_with fail
  all_goals
    go_ret
    exact ⟨rfl, rfl⟩
end Go.Proofs.Ytfblmmnofhkkaaa
