/- A slide's Points; the kit's Points and Pick. -/
import Derived.Test.YtbhkgnhgecchcaaSlS
namespace Go.Proofs.Ytbhkgnhgecchcaa
open Go.RowKit
/-- append of points onto a row of the call's own. -/
theorem wpL_pts {w : World} {ops : Array Oper} {rest : List Oper} {o : Oper} {a : Act} {Q : Exit → Act → World → Prop} (hgd : o.guard = none) (s x : Operand)
    (ho : o.op = .call { callee := .builtin .append, args := #[s, x], argTypes := #[33, 33] }) (base : Nat)
    (v : Value) (l : List Pt) (hs : a.eval s = v) (hown : w.ownsRow base 54 3 v l.length (pcs l)) (A : Option Addr) (m c : Nat) (news : List Pt) (hx : a.eval x = .slice A m c) (hm : m = news.length) (hr : RPt w A news)
    (hlen : l.length + news.length ≤ 1099511627776) (hbase : base ≤ w.heap.size)
    (h : ∀ v' w', w'.ownsRow base 54 3 v' (l.length + news.length) (pcs (l ++ news)) → w.grownBy w' v.ownBlock → (v'.ownBlock = v.ownBlock ∨ v'.ownBlock = some w.heap.size) → wpList Try.prog ops Q rest (a.put o.dst v') w') : wpList Try.prog ops Q (o :: rest) a w := by
  subst hm
  obtain ⟨i, hi, hz, h1, h2⟩ := info_parts infoP
  refine wpList_append_any w hgd s x 33 ho base 54 i _ 3 24 undP hi hz h1 h2 rfl (by omega) v l.length (pcs l) hs hown w.heap.size A news.length c (pcs news) hx hr (pcs_one _) (by unfold maxLen; omega) (by omega) hbase
    fun v' w' h3 h4 h5 => h v' w' ?_ h4 h5
  rw [pcs_append]
  exact h3
/-- An address of a whole cell. -/
def Flat (A : Option Addr) : Prop := ∀ ad, A = some ad → ad.spot = none
theorem own_pts {w : World} {base : Nat} {v : Value} {l : List Pt} (h : w.ownsRow base 54 3 v l.length (pcs l)) : ∃ A c, v = .slice A l.length c ∧ RPt w A l ∧ Flat A := by
  rcases h.2 with ⟨rfl, h0⟩ | ⟨g, cap, cur, rfl, h1, h2, h3, h4, h5⟩
  · exact ⟨none, 0, by rw [h0], (by rw [List.eq_nil_of_length_eq_zero h0]; exact ⟨rfl, fun h => absurd h (by simp)⟩), fun ad e => by cases e⟩
  · exact ⟨_, cap, rfl, Reads.of_own h, fun ad e => by cases e; rfl⟩
/-- A new slice of these points. -/
def FreshP (w : World) (l : List Pt) (e : Ending) (w' : World) : Prop := ∃ A c, e = .returned (.slice A l.length c) ∧ RPt w' A l ∧ Flat A ∧ Below w.heap.size w w'
set_option maxRecDepth 100000 in
theorem clone_p (A : Option Addr) (c : Nat) (l : List Pt) (w : World) (hp : RPt w A l) (hl : l.length ≤ 1099511627776) :
    Calls Try.prog 33 #[.slice A l.length c] w (FreshP w l) := by
  have HO : Hid ((w.alloc (.cells #[] 54)).ownsRow w.heap.size 54 3 (.slice (some ⟨w.heap.size, 0, none⟩) 0 0) 0 []) := Lib.hid (World.ownsRow_lit w #[] 0 (Nat.le_refl _) (by decide) rfl)
  have HB := Lib.hid ((Below.refl w.heap.size w).alloc (Nat.le_refl _) (.cells #[] 54))
  have HP := Lib.hid (hp.below HB.out)
  have hq := fun (W : World) (a : Option Addr) (n c : Nat) => Lib.run_eql_slice_nil (P := Try.prog) W 33 54 a n c 0 0 undP
  cases A with
  | none =>
    have h0 : l = [] := by
      rcases Nat.eq_zero_or_pos l.length with h | h
      · exact List.eq_nil_of_length_eq_zero h
      · obtain ⟨ad, e, _⟩ := hp.2 h; cases e
    subst h0
    clear hp
    go_enter Try.func33, Try.ntmps33
    go_wp2
    go_ret
    exact ⟨_, _, rfl, ⟨rfl, fun h => absurd h (by simp)⟩, (fun ad e => by cases e), Below.refl _ _⟩
  | some ad =>
    clear hp
    go_enter Try.func33, Try.ntmps33
    go_wp2_with (at_builtin; go_loud (refine wpL_pts rfl _ _ rfl w.heap.size _ [] rfl HO.out _ _ _ l rfl rfl HP.out ?o3 HB.out.size ?o5))
    case o3 => first | omega | (simp; omega)
    case o5 =>
      intro v' w' HO' hg _
      have HB' := Lib.hid (HB.out.grown hg HB.out.size (fun k e => (World.ownsRow.lt HO.out k e).1))
      obtain ⟨A', c', rfl, hr, hfl⟩ := own_pts HO'
      have HF := Lib.hid hfl
      have HR := Lib.hid hr
      clear hg HO' hr hfl
      go_wp2_with fail
      go_ret
      exact ⟨_, _, rfl, HR.out, HF.out, HB'.out⟩
set_option maxRecDepth 100000 in
theorem points_made {w : World} {F : Nat → Prop} {s : Nat} {fn span time : Int} {P : List Pt} {K : Nat} (h : SlideW w F s fn span time P K) (hP : P.length ≤ 1099511627776) : Calls Try.prog 15 #[.pointer (some ⟨s, 0, none⟩)] w (FreshP w P) := by
  have CR := Lib.hid (right_made h)
  obtain ⟨_, lv, iv, h1, h2, h3⟩ := h
  obtain ⟨A, c, rfl, _, _, hr, _⟩ := h2.form
  have CC := Lib.hid (clone_p A c P w hr hP)
  have k3 := cellAt (o := 3) h1 rfl
  clear h1 h2 h3 hr
  go_enter Try.func15, Try.ntmps15
  go_wp2_with fail
  refine CR.out.mono ?_
  rintro e w1 ⟨rfl, rfl⟩
  go_wp2_with fail
  refine CC.out.mono ?_
  rintro e w2 ⟨A', c', rfl, h1⟩
  have H := Lib.hid h1
  clear h1
  go_wp2_with fail
  go_ret
  exact ⟨A', c', rfl, H.out⟩
/-! ### The kit's -/
set_option maxRecDepth 100000 in
theorem kpoints (A B : Option Addr) (c d : Nat) (l : List Pt) (w : World) (ha : RPt w A l) (hb : RPt w B l) (hfa : Flat A) (hfb : Flat B) (hl : l.length ≤ 1099511627776) :
    Calls Try.prog 19 #[.slice A l.length c, .slice B l.length d] w fun e w' => e = .returned (.bool true) ∧ Below w.heap.size w w' := by
  have HA := Lib.hid ha
  have HB := Lib.hid hb
  have HL := Lib.hid hl
  clear ha hb hl
  go_enter Try.func19, Try.ntmps19
  go_wp2_with fail
  go_loopw [5] (fun y wr => ∃ k : Nat, k ≤ l.length ∧ y = .int .i64 k ∧ Hid (Below w.heap.size w wr)) (fun y _ => l.length - (intOf y).toNat)
  case atStart => exact ⟨0, Nat.zero_le _, rfl, Lib.hid (Below.refl _ _)⟩
  case round =>
    obtain ⟨k, hk, rfl, HW⟩ := hrel
    by_cases h0 : k < l.length
    · have e0 : (k : Int) < (l.length : Int) := by omega
      obtain ⟨⟨g, o, _⟩, rfl, _⟩ := HA.out.2 (by omega)
      obtain ⟨⟨g2, o2, _⟩, rfl, _⟩ := HB.out.2 (by omega)
      cases hfa _ rfl
      cases hfb _ rfl
      obtain ⟨hg1, hp1⟩ := RPt.pt (HA.out.below HW.out) (k := k) h0
      obtain ⟨hg2, hp2⟩ := RPt.pt (HB.out.below HW.out) (k := k) h0
      have H0 := Lib.hid h0
      have G1 := Lib.hid hg1
      have G2 := Lib.hid hg2
      have P1 := Lib.hid hp1
      have P2 := Lib.hid hp2
      generalize l[k] = p at *
      obtain ⟨pt, pn⟩ := p
      clear hg1 hg2 hp1 hp2
      go_wp2_with fail
      refine wp_region_here 9 [(0, false), (1, false), (2, false), (3, false), (4, false), (5, false), (6, false), (7, false), (8, false)] (fun _ => .cells #[] 0) (by kernel_rfl) (by kernel_rfl) ?_
      repeat (first | (refine wpP_q rfl rfl rfl ?_; apply Exists.intro; refine ⟨fun w' hw' => ?_, fun K hK => ?_⟩; (focus ((have p1 := P1.out.below G1.out hw'; have p2 := P2.out.below G2.out hw'; unfold PtAt at p1 p2; obtain ⟨a0, a1, a2⟩ := p1; obtain ⟨b0, b1, b2⟩ := p2); go_simp; first | exact quiet_value | fail)); simp only [Act.put, List.setIfInBounds_toArray, List.set_cons_zero, List.set_cons_succ]; refine hK.out _ ?_; clear hK K) | (refine wpP_skip rfl rfl rfl (fun K hK => ?_); simp only [Act.put, List.setIfInBounds_toArray, List.set_cons_zero, List.set_cons_succ]; refine hK.out _ ?_; clear hK K))
      refine wpP_nil ?_
      intro w1 hb1
      replace HW := Lib.hid (HW.out.trans (hb1.mono HW.out.size))
      clear hb1
      try simp only [List.drop_succ_cons, List.drop_zero]
      have hk9 : (k : Int) + 1 ≤ 1099511627776 := by have := HL.out; have := H0.out; omega
      go_wp2_with fail
      go_roundw
      case rel => exact ⟨k + 1, H0.out, by have := HL.out; have := H0.out; go_num, HW⟩
      case measure =>
        have h1 := H0.out
        have h2 := HL.out
        simp [intOf]; omega
    · have e0 : ¬ (k : Int) < (l.length : Int) := by omega
      go_wp2_with fail
      go_ret
      exact ⟨rfl, HW.out⟩
set_option maxRecDepth 100000 in
theorem pick_any (n m : Int) (_hn : In64 n) (hm : 1 ≤ m ∧ m ≤ 1099511627776) (w : World) : Calls Try.prog 18 #[.int .i64 n, .int .i64 m] w fun e w' => ∃ r : Int, e = .returned (.int .i64 r) ∧ 0 ≤ r ∧ r < m ∧ w = w' := by
  have hm0 : (m == 0) = false := beq_eq_false_iff_ne.2 (by omega)
  have h1 := Int.tmod_lt_of_pos n (show 0 < m by omega)
  have h2 : -m < n.tmod m := by
    have := Int.tmod_lt_of_pos (-n) (show 0 < m by omega)
    rw [Int.neg_tmod] at this; omega
  go_enter Try.func18, Try.ntmps18
  go_wp2_with fail
  all_goals
    go_ret
    exact ⟨_, rfl, by omega, by omega, rfl⟩
end Go.Proofs.Ytbhkgnhgecchcaa
