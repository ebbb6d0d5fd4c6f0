/- The reference's slide in memory: New, Time, Value, goes. -/
import Derived.Test.YtbhkgnhgecchcaaRwW
import Derived.Test.YtbhkgnhgecchcaaSlS
namespace Go.Proofs.Ytbhkgnhgecchcaa
open Go.RowKit
/-- The reference's slide at block r. -/
def RefsW (w : World) (F : Nat → Prop) (r : Nat) (fn span time : Int) (P : List Pt) : Prop :=
  F r ∧ ∃ lv, w.heap[r]? = some (.cells #[.int .i64 fn, .int .i64 span, lv, .int .i64 time] 50 (0, 0)) ∧ RowAt w (fun k => F k ∧ k ≠ r) 54 3 lv P.length (pcs P)
section
variable {w w' : World} {F G S : Nat → Prop} {r : Nat} {fn span time : Int} {P : List Pt}
theorem RefsW.keep (h : RefsW w F r fn span time P) (ho : Only S w w') (hn : ∀ k, F k → k < w.heap.size → ¬ S k) : RefsW w' F r fn span time P := by
  obtain ⟨h0, lv, h1, h2⟩ := h
  exact ⟨h0, lv, ho.get h1 (hn r h0 (only_lt h1)), h2.keep ho (fun k hk => hn k hk.1)⟩
theorem RefsW.weak (h : RefsW w F r fn span time P) (hG : ∀ k, k < w.heap.size → F k → G k) : RefsW w G r fn span time P := by
  obtain ⟨h0, lv, h1, h2⟩ := h
  exact ⟨hG r (only_lt h1) h0, lv, h1, h2.weak (fun k hl hk => ⟨hG k hl hk.1, hk.2⟩)⟩
theorem RefsW.below (h : RefsW w F r fn span time P) (hb : Below w.heap.size w w') : RefsW w' F r fn span time P := h.keep (S := fun _ => False) (Only.of_below hb) (fun _ _ _ h => h)
end
theorem own_below {w w' : World} {base : Nat} {e : TypeId} {size n : Nat} {v : Value} {xs : List Value} (h : w.ownsRow base e size v n xs) (hb : Below w.heap.size w w') : w'.ownsRow base e size v n xs :=
  ⟨h.1, h.2.imp id fun ⟨g, cap, cur, h1, h2, h3, h4⟩ => ⟨g, cap, cur, h1, h2, keepB h3 hb, h4⟩⟩
theorem own_at {w : World} {base : Nat} {e : TypeId} {size n : Nat} {v : Value} {xs : List Value} (h : w.ownsRow base e size v n xs) : RowAt w (fun k => base ≤ k) e size v n xs :=
  ⟨h.1, h.2.imp id fun ⟨g, cap, cur, h1, h2, h3, h4, h5, h6, h7⟩ => ⟨g, 0, cap, cur, h1, h2, h3, h4, h5, by omega, by simpa using h7⟩⟩
theorem filter_gone {b : Int} : ∀ {P : List Pt}, Rise P → P.filter (fun p => decide (b < p.1)) = gone b P
  | [], _ => rfl
  | p :: P, h => by
    unfold Rise at h
    rw [List.pairwise_cons] at h
    by_cases hp : p.1 ≤ b
    · rw [gone_yes hp, List.filter_cons_of_neg (by simp; omega), filter_gone h.2]
    · rw [gone_no hp, List.filter_eq_self.2]
      intro q hq
      rcases List.mem_cons.1 hq with rfl | hq
      · simp; omega
      · have := h.1 q hq; simp; omega
theorem rpt_new (w : World) (p : Pt) : RPt (w.alloc (.cells #[.int .i64 p.1, .int .i64 p.2, .bool false] 54)) (some ⟨w.heap.size, 0, none⟩) [p] := by
  refine ⟨rfl, fun _ => ⟨_, rfl, by rw [alloc_size]; exact Nat.lt_succ_self _, fun j u hu => ?_⟩⟩
  have h := newB w (.cells #[.int .i64 p.1, .int .i64 p.2, .bool false] 54)
  rw [show (⟨w.heap.size, 0, none⟩ : Addr).add j = ⟨w.heap.size, 0 + j, none⟩ from add_mk _ _ _, cell_of_row _ _ _ _ _ _ h, Nat.zero_add]
  have e : pcs [p] = [.int .i64 p.1, .int .i64 p.2, .bool false] := rfl
  rw [e] at hu
  simpa using hu
set_option maxHeartbeats 4000000 in
set_option maxRecDepth 100000 in
theorem goes_made {w : World} {F : Nat → Prop} {r : Nat} {fn span t0 : Int} {P : List Pt} (h : RefsW w F r fn span t0 P) (hP : Sane P) (time : Int) (ht0 : 0 ≤ time) (ht : time ≤ 1099511627776) (hs1 : 1 ≤ span) (hs2 : span ≤ 1073741824) :
    Calls Try.prog 36 #[.pointer (some ⟨r, 0, none⟩), .int .i64 time] w fun e w' => e = .returned (.tuple #[]) ∧ RefsW w' (fun k => F k ∨ w.heap.size ≤ k) r fn span time (gone (time - span) P) ∧ Only F w w' := by
  obtain ⟨bd, hbd⟩ : ∃ bd, time - span = bd := ⟨_, rfl⟩
  rw [hbd]
  obtain ⟨hF, lv, h1, h2⟩ := h
  have ho := Only.set w r 3 (.int .i64 time)
  have H1 : Hid ((w.setCell ⟨r, 3, none⟩ (.int .i64 time)).heap[r]? = some (.cells #[.int .i64 fn, .int .i64 span, lv, .int .i64 time] 50 (0, 0))) := Lib.hid (by rw [setCell_get h1]; rfl)
  have HO : Hid (Only F w (w.setCell ⟨r, 3, none⟩ (.int .i64 time))) := Lib.hid (ho.mono (fun k _ hk => hk ▸ hF))
  have h2' := h2.keep ho (fun k hk _ e => hk.2 e)
  obtain ⟨A, c, rfl, _⟩ := h2'.form
  have HAd : Hid (0 < P.length → ∃ g o, A = some ⟨g, o, none⟩ ∧ RPt (w.setCell ⟨r, 3, none⟩ (.int .i64 time)) A P) := Lib.hid (fun h0 => by
    obtain ⟨g, o, c', he, _, _, hrd⟩ := h2'.ad h0
    injection he with he
    exact ⟨g, o, he, by rw [he]; exact hrd⟩)
  have hsz : (w.setCell ⟨r, 3, none⟩ (.int .i64 time)).heap.size = w.heap.size := by simp [World.setCell]
  have HSZ := Lib.hid hsz
  have HP := Lib.hid hP
  have HF := Lib.hid hF
  have k3 := cellAt (o := 3) h1 rfl
  have f3 := freeAt 3 h1
  have hws : IntKind.i64.wrap (time - span) = bd := by rw [IntKind.wrap_i64]; omega
  have HRL := Lib.hid (only_lt h1)
  clear h1 h2 h2' ho hF hP hsz hbd
  go_enter Try.func36, Try.ntmps36
  go_wp2_with fail
  clear k3 f3
  generalize (World.setCell w _ _) = W0 at *
  go_loopw [5, 4] (fun y ov wr => ∃ (k : Nat) (R : List Pt) (v : Value), k ≤ P.length ∧ y = .int .i64 k ∧ v = ov ∧ Hid (R = (P.take k).filter (fun p => decide (bd < p.1))) ∧ Hid (wr.ownsRow w.heap.size 54 3 ov R.length (pcs R)) ∧ Hid (Below W0.heap.size W0 wr)) (fun y _ _ => P.length - (intOf y).toNat)
  case atStart => exact ⟨0, [], _, Nat.zero_le _, rfl, rfl, Lib.hid (by simp), Lib.hid (World.ownsRow_nil _ _ _ _), Lib.hid (Below.refl _ _)⟩
  case round =>
    obtain ⟨k, R, v, hk, rfl, rfl, HRR, HOR, HB⟩ := hrel
    have k2 := cellAt (o := 2) (keepB H1.out HB.out) rfl
    by_cases h0 : k < P.length
    · have e0 : (k : Int) < (P.length : Int) := by omega
      have HX0 := Lib.hid h0
      obtain ⟨g, o, rfl, hrd⟩ := HAd.out (by omega)
      obtain ⟨hg, hp⟩ := RPt.pt hrd h0
      have HTK : Hid (P.take (k + 1) = P.take k ++ [P[k]]) := Lib.hid (List.take_succ_eq_append_getElem h0)
      generalize P[k] = x at *
      obtain ⟨xt, xn⟩ := x
      have HPt := Lib.hid hp
      have HGL := Lib.hid hg
      have hk9 : (k : Int) + 1 ≤ 1099511627776 := by have := HP.out.len; omega
      clear hp hg hrd
      go_wp2_with fail
      clear k2
      refine wp_region_here 15 [(0, false), (1, false), (2, false), (3, false), (4, false), (5, false), (6, false), (7, false), (8, false), (9, false), (10, false), (11, false), (12, false), (13, false), (14, false)] (fun _ => .cells #[] 0) (by kernel_rfl) (by kernel_rfl) ?_
      repeat (first | (refine wpP_q rfl rfl rfl ?_; apply Exists.intro; refine ⟨fun w' hw' => ?_, fun K hK => ?_⟩; (focus ((have q0 := keepB H1.out (HB.out.trans (hw'.mono HB.out.size)); have j1 := cellAt (o := 1) q0 rfl; have j2 := cellAt (o := 2) q0 rfl; have qp := HPt.out.below HGL.out (HB.out.trans (hw'.mono HB.out.size)); unfold PtAt at qp; obtain ⟨p0, p1, p2⟩ := qp; clear q0); go_simp; first | exact quiet_value | fail)); simp only [Act.put, List.setIfInBounds_toArray, List.set_cons_zero, List.set_cons_succ]; refine hK.out _ ?_; clear hK K) | (refine wpP_skip rfl rfl rfl (fun K hK => ?_); simp only [Act.put, List.setIfInBounds_toArray, List.set_cons_zero, List.set_cons_succ]; refine hK.out _ ?_; clear hK K))
      refine wpP_nil ?_
      intro w1 hb1
      replace HB := Lib.hid (HB.out.trans (hb1.mono HB.out.size))
      replace HOR := Lib.hid (own_below HOR.out hb1)
      clear hb1
      try simp only [List.drop_succ_cons, List.drop_zero]
      cases hd : decide (bd < xt)
      all_goals have HD9 := Lib.hid hd
      case true =>
        have j2 := cellAt (o := 2) (keepB H1.out HB.out) rfl
        obtain ⟨p0, p1, p2⟩ := HPt.out.below HGL.out HB.out
        have HOb := Lib.hid (World.ownsRow.alloc HOR.out (.cells #[.int .i64 xt, .int .i64 xn, .bool false] 54))
        have HBb := Lib.hid (below_alloc HB.out (.cells #[.int .i64 xt, .int .i64 xn, .bool false] 54))
        have HNW := Lib.hid (rpt_new w1 (xt, xn))
        have HRL9 : Hid (R.length + 1 ≤ 1099511627776) := Lib.hid (by
          have h1 : R.length ≤ (P.take k).length := by rw [HRR.out]; exact List.length_filter_le _ _
          have := List.length_take_le k P
          have := HX0.out
          have := HP.out.len
          rw [List.length_take] at h1
          omega)
        go_wp2_with (at_builtin; go_loud (refine wpL_pts rfl _ _ rfl w.heap.size _ R rfl HOb.out _ _ _ [(xt, xn)] rfl rfl HNW.out HRL9.out ?o4 ?o5))
        case o4 => have h1 := HBb.out.size; have h2 := HSZ.out; rw [alloc_size] at h1; omega
        case o5 =>
          intro v' w2 HO' hg _
          have HB2 := Lib.hid (HBb.out.grown hg HBb.out.size (fun k e => Nat.le_trans (Nat.le_of_eq HSZ.out) (World.ownsRow.lt HOb.out k e).1))
          have HO2 := Lib.hid HO'
          clear hg HO' j2 p0 p1 p2
          go_wp2_with fail
          go_roundw
          case rel => exact ⟨k + 1, R ++ [(xt, xn)], v', by have := HX0.out; omega, by have := HX0.out; have := HP.out.len; go_num, rfl, Lib.hid (by rw [HTK.out, List.filter_append, ← HRR.out]; simp [HD9.out]), Lib.hid (by rw [List.length_append]; exact HO2.out), HB2⟩
          case measure =>
            have h1 := HX0.out
            have h3 := HP.out.len
            simp [intOf]; omega
      case false =>
        go_wp2_with fail
        go_roundw
        case rel => exact ⟨k + 1, R, v, by have := HX0.out; omega, by have := HX0.out; have := HP.out.len; go_num, rfl, Lib.hid (by rw [HTK.out, List.filter_append, ← HRR.out]; simp [HD9.out]), HOR, HB⟩
        case measure =>
          have h1 := HX0.out
          have h3 := HP.out.len
          simp [intOf]; omega
    · have e0 : ¬ (k : Int) < (P.length : Int) := by omega
      have q9 := keepB H1.out HB.out
      have f2 := freeAt 2 q9
      have HRG : Hid (R = gone bd P) := Lib.hid (by rw [HRR.out, List.take_of_length_le (by omega)]; exact filter_gone HP.out.rise)
      obtain ⟨A', c', rfl, _⟩ := (own_at HOR.out).form
      have HQ := Lib.hid (setCell_get (o := 2) (u := .slice A' R.length c') q9)
      clear q9 H1 HAd HRR
      go_wp2_with fail
      go_end0
      have hsz := HSZ.out
      have hlt := HRL.out
      refine ⟨rfl, ⟨.inl HF.out, .slice A' R.length c', HQ.out, ?_⟩, (HO.out.trans (Only.of_below HB.out)).trans ((Only.set wr r 2 (.slice A' R.length c')).mono (fun k _ hk => hk ▸ HF.out))⟩
      rw [← HRG.out]
      exact ((own_at HOR.out).weak (G := fun k => (F k ∨ w.heap.size ≤ k) ∧ k ≠ r) (fun k _ hk => ⟨.inr hk, by omega⟩)).keep (Only.set wr r 2 (.slice A' R.length c')) (fun k hk _ e => hk.2 e)
end Go.Proofs.Ytbhkgnhgecchcaa
