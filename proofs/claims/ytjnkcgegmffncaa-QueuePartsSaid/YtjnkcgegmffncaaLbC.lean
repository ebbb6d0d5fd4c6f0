/- Labels, changes: rows of them; cloned; compared. -/
import Derived.Test.YtjnkcgegmffncaaLab
import Derived.Test.YtjnkcgegmffncaaStar
import Derived.Test.YtjnkcgegmffncaaRegF
namespace Go.Proofs.Ytjnkcgegmffncaa
open Go.RowKit
theorem infoLb : (Try.prog.info? 76).map (fun i => (i.zero, i.size, i.bytes)) = some (some (.agg #[.string ⟨#[]⟩, .string ⟨#[]⟩]), 2, 32) := by kernel_rfl
theorem wpL_lbs {w : World} {ops : Array Oper} {rest : List Oper} {o : Oper} {a : Act} {Q : Exit → Act → World → Prop} (hgd : o.guard = none) (s x : Operand)
    (ho : o.op = .call { callee := .builtin .append, args := #[s, x], argTypes := #[29, 29] }) (base : Nat)
    (v : Value) (l : List Lb) (n : Nat) (hs : a.eval s = v) (hown : w.ownsRow base 76 2 v n (lbF l)) (A : Option Addr) (m c : Nat) (news : List Lb) (hx : a.eval x = .slice A m c) (hr : Reads w w.heap.size 2 A m (lbF news))
    (hlen : n + m ≤ 1000000000) (hbase : base ≤ w.heap.size)
    (h : ∀ v' w', w'.ownsRow base 76 2 v' (n + m) (lbF l ++ lbF news) → w.grownBy w' v.ownBlock → (v'.ownBlock = v.ownBlock ∨ v'.ownBlock = some w.heap.size) → wpList Try.prog ops Q rest (a.put o.dst v') w') : wpList Try.prog ops Q (o :: rest) a w := by
  obtain ⟨i, hi, hz, h1, h2⟩ := info_parts infoLb
  exact wpList_append_any w hgd s x 29 ho base 76 i _ 2 32 Try.underlying29 hi hz h1 h2 rfl (by omega) v n (lbF l) hs hown w.heap.size A m c (lbF news) hx hr (lbF_one _) (by unfold maxLen; omega) (by omega) hbase
    fun v' w' h3 h4 h5 => h v' w' h3 h4 h5
set_option maxRecDepth 100000 in
theorem clone_lbs {A : Option Addr} {c n : Nat} {L : List Lb} {w : World} (hn : L.length = n) (hp : Reads w w.heap.size 2 A n (lbF L)) (hl : n ≤ 1000000) :
    Calls Try.prog 37 #[.slice A n c] w fun e w' => ∃ v, e = .returned v ∧ w'.ownsRow w.heap.size 76 2 v n (lbF L) ∧ Below w.heap.size w w' := by
  have HO : Hid ((w.alloc (.cells #[] 76)).ownsRow w.heap.size 76 2 (.slice (some ⟨w.heap.size, 0, none⟩) 0 0) 0 (lbF [])) := Lib.hid (World.ownsRow_lit w #[] 0 (Nat.le_refl _) (by decide) rfl)
  have HB := Lib.hid ((Below.refl w.heap.size w).alloc (Nat.le_refl _) (.cells #[] 76))
  have HP := Lib.hid (Reads.more (hp.below HB.out) HB.out.size)
  have hq := fun (W : World) (a : Option Addr) (n c : Nat) => Lib.run_eql_slice_nil (P := Try.prog) W 29 76 a n c 0 0 Try.underlying29
  cases A with
  | none =>
    have h0 : n = 0 := by
      rcases Nat.eq_zero_or_pos n with h | h
      · exact h
      · obtain ⟨ad, e, _⟩ := hp.2 h; cases e
    subst h0
    obtain rfl := List.eq_nil_of_length_eq_zero hn
    clear hp hn
    go_enter Try.func37, Try.ntmps37
    go_wp2
    go_ret
    exact ⟨_, rfl, World.ownsRow_nil _ _ _ _, Below.refl _ _⟩
  | some ad =>
    clear hp hn
    go_enter Try.func37, Try.ntmps37
    go_wp2_with (at_builtin; go_loud (refine wpL_lbs rfl _ _ rfl w.heap.size _ [] 0 rfl HO.out _ _ _ L rfl HP.out (by omega) HB.out.size ?o5))
    case o5 =>
      intro v' w' HO' hg _
      have HB' := Lib.hid ((HB.out).grown hg HB.out.size (fun k e => (World.ownsRow.lt HO.out k e).1))
      have HO2 : Hid (w'.ownsRow w.heap.size 76 2 v' n (lbF L)) := Lib.hid (by have e : lbF [] ++ lbF L = lbF L := rfl; rw [e] at HO'; exact HO')
      clear hg HO'
      go_wp2_with fail
      go_ret
      exact ⟨_, rfl, HO2.out, HB'.out⟩
/-! ### A row of labels as it lies; changes -/
/-- A row of labels: address, capacity, labels. -/
abbrev Ls := Option Addr × Nat × List Lb
abbrev lsV (p : Ls) : Value := .slice p.1 p.2.2.length p.2.1
abbrev RdLs (w : World) (p : Ls) : Prop := RdLb w p.1 p.2.2
theorem toList_ne {a b : ByteArray} (h : a ≠ b) : (a.toList == b.toList) = false := by
  refine beq_eq_false_iff_ne.2 (fun e => h ?_)
  rw [ByteArray.toList_eq, ByteArray.toList_eq] at e
  exact ByteArray.ext (Array.ext' e)
/-- Whether labels are the same. -/
def eqL (L M : List Lb) : Bool := decide (L = M)
set_option maxHeartbeats 2000000 in
set_option maxRecDepth 100000 in
theorem equal_lbs {A B : Option Addr} {c d n m : Nat} {L M : List Lb} {w : World} (hn : L.length = n) (hm : M.length = m) (h1 : RdLb w A L) (h2 : RdLb w B M) (hl : n ≤ 1000000) :
    Calls Try.prog 32 #[.slice A n c, .slice B m d] w fun e w' => e = .returned (.bool (eqL L M)) ∧ Below w.heap.size w w' := by
  obtain ⟨b, hb⟩ : ∃ b, eqL L M = b := ⟨_, rfl⟩
  rw [hb]
  have HB := Lib.hid hb
  have H1 := Lib.hid h1
  have H2 := Lib.hid h2
  have HN := Lib.hid hn
  have HM := Lib.hid hm
  clear hb h1 h2 hn hm
  by_cases hnm : n = m
  · subst hnm
    go_enter Try.func32, Try.ntmps32
    go_wp2_with fail
    go_loopw [13] (fun v wr => ∃ k : Nat, v = .int .i64 (k : Int) ∧ k ≤ n ∧ Hid (L.take k = M.take k) ∧ Hid (Below w.heap.size w wr)) (fun v _ => n - (intOf v).toNat)
    case atStart => exact ⟨0, rfl, Nat.zero_le _, Lib.hid rfl, Lib.hid (Below.refl _ _)⟩
    case round =>
      obtain ⟨k, rfl, hk, HT, HBr⟩ := hrel
      by_cases h0 : k < n
      · have hkL : k < L.length := by rw [HN.out]; exact h0
        have hkM : k < M.length := by rw [HM.out]; exact h0
        obtain ⟨a1, rfl, _, _⟩ := H1.out.2 (by omega)
        obtain ⟨a2, rfl, _, _⟩ := H2.out.2 (by omega)
        have HC1 := Lib.hid (fun (W : World) (hb : Below wr.heap.size wr W) => (H1.out.below (HBr.out.trans (hb.mono HBr.out.size))).some_ hkL)
        have HC2 := Lib.hid (fun (W : World) (hb : Below wr.heap.size wr W) => (H2.out.below (HBr.out.trans (hb.mono HBr.out.size))).some_ hkM)
        obtain ⟨⟨n1, t1⟩, hx⟩ : ∃ x, L[k] = x := ⟨_, rfl⟩
        obtain ⟨⟨n2, t2⟩, hy⟩ : ∃ x, M[k] = x := ⟨_, rfl⟩
        rw [hx] at HC1
        rw [hy] at HC2
        have HL : Hid (L.take (k + 1) = L.take k ++ [(n1, t1)]) := Lib.hid (by rw [← hx]; exact (List.take_append_getElem hkL).symm)
        have HR : Hid (M.take (k + 1) = M.take k ++ [(n2, t2)]) := Lib.hid (by rw [← hy]; exact (List.take_append_getElem hkM).symm)
        have HXY : Hid (b = true → n1 = n2 ∧ t1 = t2) := Lib.hid (fun e => by
          have : L = M := by have := HB.out; rw [e] at this; simpa [eqL] using this
          have h3 : L[k] = M[k] := by simp [this]
          rw [hx, hy] at h3
          cases h3; exact ⟨rfl, rfl⟩)
        have hw : IntKind.i64.wrap ((k : Int) + 1) = ((k + 1 : Nat) : Int) := by rw [IntKind.wrap_i64]; omega
        have hkI : (k : Int) < (n : Int) := by omega
        clear hkL hkM hx hy
        by_cases hnn : n1 = n2
        · subst hnn
          by_cases htt : t1 = t2
          · subst htt
            go_wp2_with fail
            refine wp_region_here 9 [(0, false), (1, false), (2, false), (3, false), (4, false), (5, false), (6, false), (7, false), (8, false)] (fun _ => .cells #[] 0) (by kernel_rfl) (by kernel_rfl) ?_
            repeat (first | (refine wpP_q rfl rfl rfl ?_; apply Exists.intro; refine ⟨fun w' hw' => ?_, fun K hK => ?_⟩; (focus ((obtain ⟨c1, c2⟩ := HC1.out _ hw'; obtain ⟨c3, c4⟩ := HC2.out _ hw'); go_simp; first | exact quiet_value | fail)); simp only [Act.put, List.setIfInBounds_toArray, List.set_cons_zero, List.set_cons_succ]; refine hK.out _ ?_; clear hK K) | (refine wpP_skip rfl rfl rfl (fun K hK => ?_); simp only [Act.put, List.setIfInBounds_toArray, List.set_cons_zero, List.set_cons_succ]; refine hK.out _ ?_; clear hK K))
            refine wpP_nil ?_
            intro w2 hb2
            have HB2 := Lib.hid (HBr.out.trans (hb2.mono HBr.out.size))
            clear hb2
            (try simp only [List.drop_succ_cons]); (try simp only [List.drop_zero]); (try simp only [List.drop_nil])
            go_wp2_with fail
            go_roundw
            case rel => exact ⟨k + 1, by go_num, by omega, Lib.hid (by rw [HL.out, HR.out, HT.out]), HB2⟩
            case measure => simp [intOf]; omega
          · obtain rfl : b = false := by
              cases b
              · rfl
              · exact absurd (HXY.out rfl).2 htt
            have hne := toList_ne htt
            clear HXY htt
            go_wp2_with fail
            refine wp_region_here 9 [(0, false), (1, false), (2, false), (3, false), (4, false), (5, false), (6, false), (7, false), (8, false)] (fun _ => .cells #[] 0) (by kernel_rfl) (by kernel_rfl) ?_
            repeat (first | (refine wpP_q rfl rfl rfl ?_; apply Exists.intro; refine ⟨fun w' hw' => ?_, fun K hK => ?_⟩; (focus ((obtain ⟨c1, c2⟩ := HC1.out _ hw'; obtain ⟨c3, c4⟩ := HC2.out _ hw'); go_simp; first | exact quiet_value | fail)); simp only [Act.put, List.setIfInBounds_toArray, List.set_cons_zero, List.set_cons_succ]; refine hK.out _ ?_; clear hK K) | (refine wpP_skip rfl rfl rfl (fun K hK => ?_); simp only [Act.put, List.setIfInBounds_toArray, List.set_cons_zero, List.set_cons_succ]; refine hK.out _ ?_; clear hK K))
            refine wpP_nil ?_
            intro w2 hb2
            have HB2 := Lib.hid (HBr.out.trans (hb2.mono HBr.out.size))
            clear hb2
            (try simp only [List.drop_succ_cons]); (try simp only [List.drop_zero]); (try simp only [List.drop_nil])
            go_wp2_with fail
            go_ret
            exact ⟨rfl, HB2.out⟩
        · obtain rfl : b = false := by
            cases b
            · rfl
            · exact absurd (HXY.out rfl).1 hnn
          have hne := toList_ne hnn
          clear HXY hnn
          go_wp2_with fail
          refine wp_region_here 9 [(0, false), (1, false), (2, false), (3, false), (4, false), (5, false), (6, false), (7, false), (8, false)] (fun _ => .cells #[] 0) (by kernel_rfl) (by kernel_rfl) ?_
          repeat (first | (refine wpP_q rfl rfl rfl ?_; apply Exists.intro; refine ⟨fun w' hw' => ?_, fun K hK => ?_⟩; (focus ((obtain ⟨c1, c2⟩ := HC1.out _ hw'; obtain ⟨c3, c4⟩ := HC2.out _ hw'); go_simp; first | exact quiet_value | fail)); simp only [Act.put, List.setIfInBounds_toArray, List.set_cons_zero, List.set_cons_succ]; refine hK.out _ ?_; clear hK K) | (refine wpP_skip rfl rfl rfl (fun K hK => ?_); simp only [Act.put, List.setIfInBounds_toArray, List.set_cons_zero, List.set_cons_succ]; refine hK.out _ ?_; clear hK K))
          refine wpP_nil ?_
          intro w2 hb2
          have HB2 := Lib.hid (HBr.out.trans (hb2.mono HBr.out.size))
          clear hb2
          (try simp only [List.drop_succ_cons]); (try simp only [List.drop_zero]); (try simp only [List.drop_nil])
          go_wp2_with fail
          go_ret
          exact ⟨rfl, HB2.out⟩
      · obtain rfl : b = true := by
          rw [← HB.out]
          have := HT.out
          rw [List.take_of_length_le (by rw [HN.out]; omega), List.take_of_length_le (by rw [HM.out]; omega)] at this
          simp [eqL, this]
        have hkI : ¬ (k : Int) < (n : Int) := by omega
        go_wp2_with fail
        go_ret
        exact ⟨rfl, HBr.out⟩
  · obtain rfl : b = false := by
      rw [← HB.out]
      refine decide_eq_false (fun e => hnm ?_)
      rw [← HN.out, ← HM.out, e]
    have hnI : ((n : Int) == (m : Int)) = false := by simp; omega
    go_enter Try.func32, Try.ntmps32
    go_wp2_with fail
    go_ret
    exact ⟨rfl, Below.refl _ _⟩
end Go.Proofs.Ytjnkcgegmffncaa
