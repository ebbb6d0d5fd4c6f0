/- A buffer's iterator: its points above a time. -/
import Derived.Test.YtfblmmnofhkkaaaBfU
import Derived.RangeFuncNested
import Derived.RangeFuncBound
import Derived.RangeFuncCalls
import Derived.RangeFuncLeaves
import Derived.RangeFuncBox
import Derived.Shelf.Abstract
import Derived.Shelf.RegionOpen
import Derived.OwnWalkIn
import Derived.TacticsInMore
import Derived.LoopNIn
import Derived.LoopIn
import Derived.Maps.AppendAt
namespace Go.Proofs.Ytfblmmnofhkkaaa
open Go.RowKit Go.Shelf
attribute [local go_sem] Oper.semAt_some
theorem points_fn (q : Option Addr) (t : Int) (w : World) : Calls Try.prog 36 #[.pointer q, .int .i64 t] w fun e w' => e = .returned (.func (.func 47) #[] #[.pointer (some ⟨w.heap.size, 0, none⟩), .pointer (some ⟨w.heap.size + 1, 0, none⟩)]) ∧ w' = (w.alloc (.cells #[.pointer q] 24)).alloc (.cells #[.int .i64 t] 2) := by
  cases q
  all_goals
    go_enter Try.func36, Try.ntmps36
    go_wp2_with fail
    go_ret
    exact ⟨rfl, rfl⟩
abbrev encP (p : Pt) : Array Value := #[bpv p]
/-- What a round keeps for the iterator: what lay below n0, and the time's box. -/
structure KpB (n0 Bf : Nat) (t : Int) (W W' : World) : Prop where
  below : Below n0 W W'
  box : W.heap[Bf]? = some (.cells #[.int .i64 t] 2 (0, 0)) → W'.heap[Bf]? = some (.cells #[.int .i64 t] 2 (0, 0))
/-- The contract of a sequence of points: all of them, or a prefix. -/
abbrev SeqP (f : Nat) (lb : Array Value) (L : List Pt) (n0 Bf : Nat) (t : Int) (w : World) : Prop := SeqStopsK Fence.wide 8 Try.prog f lb encP (KpB n0 Bf t) (fun xs => xs = L) (fun pre => pre <+: L) L.length w
set_option maxRecDepth 100000 in
set_option maxHeartbeats 4000000 in
theorem points1_nil {w : World} {Bb Bf n0 : Nat} {t : Int} (hb : w.heap[Bb]? = some (.cells #[.pointer none] 24 (0, 0))) : SeqP 47 #[.pointer (some ⟨Bb, 0, none⟩), .pointer (some ⟨Bf, 0, none⟩)] [] n0 Bf t w := by
  intro l J Jx W hW hJ hJx hY hJ0
  have cb := cellAt (o := 0) (v := .pointer none) (keepB hb hW) rfl
  have CR := Lib.hid (bright_nil W)
  clear hb hY
  refine callsIn_of_wp Try.func47 rfl trivial ?_ rfl
  simp only [Try.ntmps47, List.size_toArray, List.length_cons, List.length_nil, Nat.reduceAdd, Nat.reduceSub, Array.replicate_succ, Array.replicate_zero, List.push_toArray, List.append_toArray, List.nil_append, List.cons_append]
  gi_wp2_with (refine ⟨trivial, ?_⟩; refine (callsIn_wide.2 CR.out).mono ?_; rintro e w1 ⟨rfl, rfl⟩)
  refine bodyPost_ret (results_none rfl _ _ _) rfl ?_
  exact ⟨⟨_, rfl⟩, .inl ⟨_, rfl, hJ0⟩⟩
theorem iter_pre {Bs : List (List Pt)} {t : Int} {k m : Nat} {X : List Pt} (hk : k < Bs.length) (l1 : ∀ q ∈ (Bs.take k).flatten, q.1 < t) (hm : k + m < Bs.length) (hX : Bs[k + m] = X) (i : Nat) :
    aboveP t (((Bs.drop k).take m).flatten ++ X.take i) <+: aboveP t Bs.flatten := by
  have e : Bs.flatten = (Bs.take k).flatten ++ (Bs.drop k).flatten := by rw [← List.flatten_append, List.take_append_drop]
  have e2 : (Bs.drop k).flatten = ((Bs.drop k).take m).flatten ++ X ++ ((Bs.drop k).drop (m + 1)).flatten := by
    rw [flat_at (Bs := Bs.drop k) m (by rw [List.length_drop]; omega)]
    congr 2
    rw [List.getElem_drop]; exact hX
  rw [e, above_app t (Bs.take k).flatten, show aboveP t (Bs.take k).flatten = [] from filter_no (fun q hq => by have := l1 q hq; simp; omega), List.nil_append, e2]
  refine List.IsPrefix.filter _ ?_
  rw [List.append_assoc]
  exact (List.prefix_append_right_inj _).2 ((List.take_prefix _ _).trans (List.prefix_append _ _))
set_option maxRecDepth 100000 in
set_option maxHeartbeats 4000000 in
theorem points1_seq {w0 w : World} {F : Nat → Prop} {b Bb Bf : Nat} {P : List Pt} {fl t : Int} (h : BufL w0 F b P fl) (h0w : Below w0.heap.size w0 w) (hb : w.heap[Bb]? = some (.cells #[bptr b] 24 (0, 0))) (hf : w.heap[Bf]? = some (.cells #[.int .i64 t] 2 (0, 0))) :
    SeqP 47 #[.pointer (some ⟨Bb, 0, none⟩), .pointer (some ⟨Bf, 0, none⟩)] (aboveP t P) w0.heap.size Bf t w := by
  intro l J Jx W hW hJ hJx hY hJ0
  obtain ⟨Z, v, hc, hG, hP, hL⟩ := h
  have hW0 := h0w.trans (hW.mono h0w.size)
  have hcW := hc.below hW0
  have CR := Lib.hid (bright_any hcW)
  have cb := cellAt (o := 0) (v := bptr b) (keepB hb hW) rfl
  by_cases hz : Z = []
  · subst hz
    obtain ⟨A, c, rfl⟩ := hc.noB
    have k1 := cellAt (o := 1) (v := .slice A 0 c) hcW.buf rfl
    obtain rfl : P = [] := hP
    clear hc hcW hY
    refine callsIn_of_wp Try.func47 rfl trivial ?_ rfl
    simp only [Try.ntmps47, List.size_toArray, List.length_cons, List.length_nil, Nat.reduceAdd, Nat.reduceSub, Array.replicate_succ, Array.replicate_zero, List.push_toArray, List.append_toArray, List.nil_append, List.cons_append]
    gi_wp2_with (refine ⟨trivial, ?_⟩; refine (callsIn_wide.2 CR.out).mono ?_; rintro e w1 ⟨rfl, rfl⟩)
    refine bodyPost_ret (results_none rfl _ _ _) rfl ?_
    exact ⟨⟨_, rfl⟩, .inl ⟨_, rfl, hJ0⟩⟩
  · obtain ⟨g, o, c, rfl, z1, z2, z3, z4⟩ := hc.form hz
    obtain ⟨hk, l1, l2, l3⟩ := locate t hG (by simpa using hz)
    have hzl := good_len hG
    rw [← hP] at hzl
    have CT := Lib.hid (fun W' (h' : Below w0.heap.size w0 W') => bat_L t (hc.below h') hG hz (by omega))
    obtain ⟨k, hkk⟩ : ∃ k, atK t (tms (heads (Z.map (·.2)))) = k := ⟨_, rfl⟩
    simp only [hkk] at CT hk l1 l2 l3
    have hkl : k < Z.length := by simpa using hk
    have HC := Lib.hid hc
    have HB := Lib.hid hb
    have HF := Lib.hid hf
    have HW := Lib.hid hW
    have HW0 := Lib.hid hW0
    have HJ0 := Lib.hid hJ0
    have HY := Lib.hid hY
    have cf := cellAt (o := 0) (v := .int .i64 t) (keepB hf hW) rfl
    have k1 := cellAt (o := 1) (v := .slice (some ⟨g, o, none⟩) Z.length c) hcW.buf rfl
    clear hc hcW z4 hb hf
    obtain ⟨zl, hzz⟩ : ∃ zl, Z.length = zl := ⟨_, rfl⟩
    have HZZ := Lib.hid hzz
    rw [hzz] at k1 hkl z1 hzl
    have e5 : ¬ (zl : Int) = 0 := by omega
    have hck : ¬ c = k := by omega
    have hkz : k ≤ zl := by omega
    clear hzz hY hJ0
    refine callsIn_of_wp Try.func47 rfl trivial ?_ rfl
    simp only [Try.ntmps47, List.size_toArray, List.length_cons, List.length_nil, Nat.reduceAdd, Nat.reduceSub, Array.replicate_succ, Array.replicate_zero, List.push_toArray, List.append_toArray, List.nil_append, List.cons_append]
    gi_wp2_with (refine ⟨trivial, ?_⟩; refine (callsIn_wide.2 CR.out).mono ?_; rintro e w1 ⟨rfl, rfl⟩)
    refine wpIn_wide.2 ?_
    refine wp_region_here 10 [(0, false), (1, false), (2, false), (3, false), (4, false), (5, false), (6, false), (7, false), (8, false), (9, false)] (fun _ => .cells #[] 0) (by kernel_rfl) (by kernel_rfl) ?_
    repeat (first | (refine wpP_q rfl rfl rfl ?_; apply Exists.intro; refine ⟨fun w' hw' => ?_, fun K hK => ?_⟩; (focus ((have hw := HW.out.trans (hw'.mono HW.out.size); have q0 := cellAt (o := 0) (v := bptr b) (keepB HB.out hw) rfl; have q1 := cellAt (o := 0) (v := .int .i64 t) (keepB HF.out hw) rfl; have q2 := cellAt (o := 1) (v := .slice (some ⟨g, o, none⟩) zl c) (HC.out.below (HW0.out.trans (hw'.mono HW0.out.size))).buf (by rw [HZZ.out]; rfl); have HWW := Lib.hid (HW0.out.trans (hw'.mono HW0.out.size)); clear hw); go_simp; first | exact quiet_value | first | with_reducible exact quiet_enter (CT.out _ HWW.out))); simp only [Act.put, List.setIfInBounds_toArray, List.set_cons_zero, List.set_cons_succ]; refine hK.out _ ?_; clear hK K) | (refine wpP_skip rfl rfl rfl (fun K hK => ?_); simp only [Act.put, List.setIfInBounds_toArray, List.set_cons_zero, List.set_cons_succ]; refine hK.out _ ?_; clear hK K))
    refine wpP_nil ?_
    intro w1 hb1
    have HB1 := Lib.hid (HW0.out.trans (hb1.mono HW0.out.size))
    have HF1 : Hid (w1.heap[Bf]? = some (.cells #[.int .i64 t] 2 (0, 0))) := Lib.hid (keepB (keepB HF.out HW.out) hb1)
    have HJ1 : Hid (J [] w1) := Lib.hid (hJ [] W w1 none HJ0.out ⟨hb1.os, hb1.tape, hb1.output, hb1.size, fun k hk _ => hb1.block k hk⟩ (fun r e => by cases e))
    clear hb1 cb cf k1
    (try simp only [List.drop_succ_cons]); (try simp only [List.drop_zero]); (try simp only [List.drop_nil])
    unfold wpList
    simp only [Exit.then]
    gi_wp2
    simp only [show ((zl : Int) == 0) = false from beq_eq_false_iff_ne.2 e5]
    gi_loopw [28] (fun v28 wr => ∃ m : Nat, v28 = .int .i64 (m : Int) ∧ m ≤ zl - k ∧ Hid (J (aboveP t (((Z.map (·.2)).drop k).take m).flatten) wr) ∧ Hid (Below w0.heap.size w0 wr) ∧ Hid (wr.heap[Bf]? = some (.cells #[.int .i64 t] 2 (0, 0)))) (fun v28 _ => (zl - k) - (intOf v28).toNat)
    case atStart => exact ⟨0, rfl, Nat.zero_le _, by simpa [aboveP] using HJ1, HB1, HF1⟩
    case round =>
      clear HJ0 HJ1 HB1 HF1
      obtain ⟨m, rfl, hm, HJm, HBm, HFm⟩ := hrel
      by_cases hlt : m < zl - k
      · have hkm : k + m < Z.length := by rw [HZZ.out]; omega
        obtain ⟨g', o', c', he, z1', z2', z3', z4'⟩ := HC.out.form hz
        obtain ⟨⟨rfl, rfl⟩, rfl⟩ : (g = g' ∧ o = o') ∧ c = c' := by simpa using he
        have hcell := z4' (k + m) hkm
        obtain ⟨x, X, hx⟩ : ∃ x X, Z[k + m] = (x, X) := ⟨_, _, rfl⟩
        rw [hx] at hcell
        have hblk := (HC.out.blks _ (List.getElem_mem hkm)).2
        rw [hx] at hblk
        have g1 : wr.cell? ⟨g, o + k + m, none⟩ = some (.pointer (some ⟨x, 0, none⟩)) := by rw [Nat.add_assoc]; exact (HBm.out.cell (p := ⟨g, o + (k + m), none⟩) z3').trans hcell
        have CP := Lib.hid (bpoints_any (hblk.below HBm.out))
        have HBK := Lib.hid hblk
        have hx64 := hblk.le
        clear he z1' z2' z4' hcell hblk
        gi_wp2_with (refine ⟨trivial, ?_⟩; refine (callsIn_wide.2 CP.out).mono ?_; rintro e w2 ⟨rfl, hb2⟩)
        have HB2 := Lib.hid (HBm.out.trans (hb2.mono HBm.out.size))
        have HF2 : Hid (w2.heap[Bf]? = some (.cells #[.int .i64 t] 2 (0, 0))) := Lib.hid (keepB HFm.out hb2)
        have HJ2 : Hid (J (aboveP t (((Z.map (·.2)).drop k).take m).flatten) w2) := Lib.hid (hJ _ wr w2 none HJm.out ⟨hb2.os, hb2.tape, hb2.output, hb2.size, fun k hk _ => hb2.block k hk⟩ (fun r e => by cases e))
        obtain ⟨prev, hprev⟩ : ∃ prev, (((Z.map (·.2)).drop k).take m).flatten = prev := ⟨_, rfl⟩
        obtain ⟨xn, hxn⟩ : ∃ xn, X.length = xn := ⟨_, rfl⟩
        rw [hprev] at HJ2
        have HPV := Lib.hid hprev
        have HXN := Lib.hid hxn
        rw [hxn] at hx64 ⊢
        clear hb2 hprev hxn HJm HBm HFm CP g1
        gi_loopw [35] (fun v35 wr => ∃ j : Nat, v35 = .int .i64 (j : Int) ∧ j ≤ xn ∧ Hid (J (aboveP t (prev ++ X.take j)) wr) ∧ Hid (Below w0.heap.size w0 wr) ∧ Hid (wr.heap[Bf]? = some (.cells #[.int .i64 t] 2 (0, 0)))) (fun v35 _ => xn - (intOf v35).toNat)
        case atStart => exact ⟨0, rfl, Nat.zero_le _, by simpa using HJ2, HB2, HF2⟩
        case round =>
          clear HJ2 HB2 HF2
          obtain ⟨j, rfl, hj, HJj, HBj, HFj⟩ := hrel
          by_cases hjl : j < xn
          · have hjX : j < X.length := by rw [HXN.out]; exact hjl
            have hpt := (HBK.out.below HBj.out).pt hjX
            obtain ⟨p, hp⟩ : ∃ p, X[j] = p := ⟨_, rfl⟩
            rw [hp] at hpt
            obtain ⟨p0, p1, p2⟩ := hpt
            have cf := cellAt (o := 0) (v := .int .i64 t) HFj.out rfl
            have hwj : IntKind.i64.wrap ((j : Int) + 1) = (j : Int) + 1 := by rw [IntKind.wrap_i64]; omega
            have cf2 := cellAt (o := 0) (v := .int .i64 t) (keepA HFj.out (Obj.cells #[.int .i64 (p).1, .int .i64 (p).2, .bool false] 45)) rfl
            have n0 := cellAt (o := 0) (v := .int .i64 p.1) (newB wr (Obj.cells #[.int .i64 (p).1, .int .i64 (p).2, .bool false] 45)) rfl
            have n1 := cellAt (o := 1) (v := .int .i64 p.2) (newB wr (Obj.cells #[.int .i64 (p).1, .int .i64 (p).2, .bool false] 45)) rfl
            have n2 := cellAt (o := 2) (v := .bool false) (newB wr (Obj.cells #[.int .i64 (p).1, .int .i64 (p).2, .bool false] 45)) rfl
            have HBa := Lib.hid (HBj.out.trans ((below_alloc (Below.refl wr.heap.size wr) (Obj.cells #[.int .i64 (p).1, .int .i64 (p).2, .bool false] 45)).mono HBj.out.size))
            have HFa : Hid ((wr.alloc (Obj.cells #[.int .i64 (p).1, .int .i64 (p).2, .bool false] 45)).heap[Bf]? = some (.cells #[.int .i64 t] 2 (0, 0))) := Lib.hid (keepA HFj.out _)
            have HJa : Hid (J (aboveP t (prev ++ X.take j)) (wr.alloc (Obj.cells #[.int .i64 (p).1, .int .i64 (p).2, .bool false] 45))) := Lib.hid (hJ _ wr _ none HJj.out (World.grownBy_alloc wr _ none) (fun r e => by cases e))
            have hpre := iter_pre (t := t) hk l1 (m := m) (X := X) (by simpa using hkm) (by rw [List.getElem_map]; exact congrArg Prod.snd hx) (j + 1)
            rw [HPV.out, ← hP] at hpre
            have htk : X.take (j + 1) = X.take j ++ [p] := by rw [← hp, List.take_append_getElem]
            rw [htk, ← List.append_assoc, above_app] at hpre
            have HPR := Lib.hid hpre
            have HTK := Lib.hid htk
            clear hpre htk
            by_cases e1 : t < p.1
            · have hsp : aboveP t [p] = [p] := by simp [aboveP, e1]
              have hln : (aboveP t (prev ++ X.take j)).length < (aboveP t P).length := by
                have := HPR.out.length_le
                rw [hsp] at this; simp at this; omega
              obtain ⟨fn, tm, asg, bd, hy, hR⟩ := HY.out _ p _ HJa.out hln
              clear hln
              gi_wp2
              refine hR.mono ?_
              rintro e W3 (⟨rfl, hJ3, hk3⟩ | ⟨rfl, hJx3⟩)
              · have HJ3 := Lib.hid hJ3
                have HB3 := Lib.hid (HBa.out.trans hk3.below)
                have HF3 := Lib.hid (hk3.box HFa.out)
                clear hJ3 hk3 hy hR cf cf2 n0 n1 n2 p0 p1 p2
                gi_wp2
                go_roundw
                case rel => exact ⟨j + 1, by rfl, by omega, by rw [HTK.out, ← List.append_assoc, above_app, hsp]; exact HJ3, HB3, HF3⟩
                case measure => simp [intOf]; omega
              · gi_wp2
                refine bodyPost_ret (results_none rfl _ _ _) rfl ?_
                exact ⟨⟨_, rfl⟩, .inr ⟨_, by have := HPR.out; rw [hsp] at this; exact this, hJx3⟩⟩
            · have hsp : aboveP t [p] = [] := by simp [aboveP, e1]
              gi_wp2
              refine ⟨fun f h => (by cases h), ?_⟩
              gi_wp2
              go_roundw
              case rel => exact ⟨j + 1, by rfl, by omega, by rw [HTK.out, ← List.append_assoc, above_app, hsp, List.append_nil]; exact HJa, HBa, HFa⟩
              case measure => simp [intOf]; omega
          · obtain rfl : j = xn := by omega
            have hwm : IntKind.i64.wrap ((m : Int) + 1) = (m : Int) + 1 := by rw [IntKind.wrap_i64]; omega
            have hBk : (Z.map (·.2))[k + m]'(by simpa using hkm) = X := by rw [List.getElem_map]; exact congrArg Prod.snd hx
            have hnx : (((Z.map (·.2)).drop k).take (m + 1)).flatten = prev ++ X := by
              rw [← HPV.out, ← List.take_append_getElem (show m < ((Z.map (·.2)).drop k).length by rw [List.length_drop, List.length_map, HZZ.out]; omega), List.flatten_append]
              congr 1
              rw [List.getElem_drop, hBk]; simp
            gi_wp2
            go_roundw
            case rel =>
              have HJn : Hid (J (aboveP t (((Z.map (·.2)).drop k).take (m + 1)).flatten) wr) := by rw [hnx]; have := HJj; rwa [List.take_of_length_le (by rw [HXN.out]; exact Nat.le_refl _)] at this
              exact ⟨m + 1, by rfl, by omega, HJn, HBj, HFj⟩
            case measure => simp [intOf]; omega
      · obtain rfl : m = zl - k := by omega
        gi_wp2
        go_end0
        refine ⟨⟨_, rfl⟩, .inl ⟨_, rfl, ?_⟩⟩
        have hend : aboveP t P = aboveP t (((Z.map (·.2)).drop k).take (zl - k)).flatten := by
          rw [List.take_of_length_le (by rw [List.length_drop, List.length_map, HZZ.out]; exact Nat.le_refl _), hP]
          have e : (Z.map (·.2)).flatten = ((Z.map (·.2)).take k).flatten ++ ((Z.map (·.2)).drop k).flatten := by rw [← List.flatten_append, List.take_append_drop]
          rw [e, above_app t ((Z.map (·.2)).take k).flatten, show aboveP t ((Z.map (·.2)).take k).flatten = [] from filter_no (fun q hq => by have := l1 q hq; simp; omega), List.nil_append]
        rw [hend]; exact HJm.out
end Go.Proofs.Ytfblmmnofhkkaaa
