/- Parts of the proof: BfU BfJ Star. -/
import Derived.Test.YtangcgfchalnaaaYaj
import Derived.RangeFuncNested
import Derived.RangeFuncBound
import Derived.RangeFuncCalls
import Derived.RangeFuncLeaves
import Derived.RangeFuncBox
import Derived.Shelf.Abstract
import Derived.Shelf.RegionOpen
import Derived.OwnWalkIn
import Derived.TacticsInMore
import Derived.LoopNIn
import Derived.LoopIn
import Derived.Maps.AppendAt
import Derived.Test.YtangcgfchalnaaaYac
/- A buffer in memory: Trim, whole; a buffer that nobody made; New. -/
namespace Go.Proofs.Ytangcgfchalnaaa
open Go.RowKit
section
variable {w w' : World} {F : Nat → Prop} {b n : Nat} {Z : List Blk} {v : Value} {fl : Int} {P : List Pt}
set_option maxRecDepth 100000 in
theorem bTrim_back (t : Int) (h1 : t < fl) (h : BufC w F b Z v fl n) : Calls Try.prog 28 #[bptr b, .int .i64 t] w fun e w' => e = .returned (.tuple #[.int .i64 0, .int .i64 2]) ∧ Below w.heap.size w w' := by
  have CR := Lib.hid (bright_any h)
  have d2 := cellAt (o := 2) (v := .int .i64 fl) h.buf rfl
  clear h
  go_enter Try.func28, Try.ntmps28
  go_wp2_with fail
  refine CR.out.mono ?_
  rintro e w1 ⟨rfl, rfl⟩
  go_wp2_with fail
  exact bodyPost_ret (v := .tuple #[.int .i64 0, .int .i64 2]) (by simp only [results, Try.results28]; go_simp) rfl ⟨rfl, Below.refl _ _⟩
/-- How Trim ends: how many went, its number; what it leaves. -/
def trimE (t : Int) (P : List Pt) (fl : Int) : Int × Int := if t < fl then (0, 2) else (((P.length - (aboveP t P).length : Nat) : Int), 0)
def trimP (t : Int) (P : List Pt) (fl : Int) : List Pt := if t < fl then P else aboveP t P
def trimF (t fl : Int) : Int := if t < fl then fl else t
/-- TRIM. -/
theorem bTrim_any (t : Int) (h : BufL w F b P fl) : Calls Try.prog 28 #[bptr b, .int .i64 t] w fun e w' => e = .returned (.tuple #[.int .i64 (trimE t P fl).1, .int .i64 (trimE t P fl).2]) ∧ BufGo w F b (trimP t P fl) (trimF t fl) w' := by
  unfold trimE trimP trimF
  by_cases h1 : t < fl
  · rw [if_pos h1, if_pos h1, if_pos h1]
    obtain ⟨Z, v, hc, _⟩ := id h
    exact (bTrim_back t h1 hc).mono fun e w' ⟨a, b⟩ => ⟨a, BufGo.below h b⟩
  · rw [if_neg h1, if_neg h1, if_neg h1]
    exact (bTrim_go t h h1).mono fun e w' ⟨a, b, c⟩ => ⟨a, BufGo.of b (fun _ h => .inl h) c⟩
end
/-! ### A buffer that nobody made -/
section
variable (w : World)
set_option maxRecDepth 100000 in
theorem bput_nil (t m : Int) : Calls Try.prog 29 #[.pointer none, .int .i64 t, .int .i64 m] w fun e w' => e = .returned (.int .i64 1) ∧ Below w.heap.size w w' := by
  have CR := Lib.hid (fun W => bright_nil W)
  go_enter Try.func29, Try.ntmps29
  go_wp2_with fail
  refine (CR.out _).mono ?_
  rintro e w1 ⟨rfl, rfl⟩
  go_wp2_with fail
  go_ret
  exact ⟨rfl, Below.refl _ _⟩
theorem blen_nil : Calls Try.prog 44 #[.pointer none] w fun e w' => e = .returned (.int .i64 0) ∧ Below w.heap.size w w' := by
  have CR := Lib.hid (fun W => bright_nil W)
  go_enter Try.func44, Try.ntmps44
  go_wp2_with fail
  refine (CR.out _).mono ?_
  rintro e w1 ⟨rfl, rfl⟩
  go_wp2_with fail
  go_ret
  exact ⟨rfl, Below.refl _ _⟩
theorem bat_nil (t : Int) : Calls Try.prog 42 #[.pointer none, .int .i64 t] w fun e w' => e = .returned (.tuple #[.int .i64 0, .bool false]) ∧ Below w.heap.size w w' := by
  have CR := Lib.hid (fun W => bright_nil W)
  go_enter Try.func42, Try.ntmps42
  go_wp2_with fail
  refine (CR.out _).mono ?_
  rintro e w1 ⟨rfl, rfl⟩
  go_wp2_with fail
  exact bodyPost_ret (v := .tuple #[.int .i64 0, .bool false]) (by simp only [results, Try.results42]; go_simp) rfl ⟨rfl, Below.refl _ _⟩
theorem btrim_nil (t : Int) : Calls Try.prog 28 #[.pointer none, .int .i64 t] w fun e w' => e = .returned (.tuple #[.int .i64 0, .int .i64 1]) ∧ Below w.heap.size w w' := by
  have CR := Lib.hid (fun W => bright_nil W)
  go_enter Try.func28, Try.ntmps28
  go_wp2_with fail
  refine (CR.out _).mono ?_
  rintro e w1 ⟨rfl, rfl⟩
  go_wp2_with fail
  exact bodyPost_ret (v := .tuple #[.int .i64 0, .int .i64 1]) (by simp only [results, Try.results28]; go_simp) rfl ⟨rfl, Below.refl _ _⟩
/-- New. -/
theorem bnew_any : Calls Try.prog 27 #[] w fun e w' => e = .returned (bptr w.heap.size) ∧ BufL w' (fun k => k = w.heap.size) w.heap.size [] 0 ∧ Below w.heap.size w w' ∧ w'.heap.size = w.heap.size + 1 := by
  go_enter Try.func27, Try.ntmps27
  go_wp2_with fail
  go_ret
  refine ⟨rfl, ⟨[], .slice none 0 0, ⟨rfl, newB w _, RowAt.nil_, by simp, by simp⟩, ⟨by simp, List.Pairwise.nil⟩, rfl, by simp⟩, below_alloc (Below.refl _ _) _, alloc_size _ _⟩
end
end Go.Proofs.Ytangcgfchalnaaa

/- A buffer's iterator: its points above a time. -/
namespace Go.Proofs.Ytangcgfchalnaaa
open Go.RowKit Go.Shelf
attribute [local go_sem] Oper.semAt_some
theorem points_fn (q : Option Addr) (t : Int) (w : World) : Calls Try.prog 73 #[.pointer q, .int .i64 t] w fun e w' => e = .returned (.func (.func 90) #[] #[.pointer (some ⟨w.heap.size, 0, none⟩), .pointer (some ⟨w.heap.size + 1, 0, none⟩)]) ∧ w' = (w.alloc (.cells #[.pointer q] 63)).alloc (.cells #[.int .i64 t] 2) := by
  cases q
  all_goals
    go_enter Try.func73, Try.ntmps73
    go_wp2_with fail
    go_ret
    exact ⟨rfl, rfl⟩
abbrev encP (p : Pt) : Array Value := #[bpv p]
/-- What a round keeps for the iterator: what lay below n0, and the time's box. -/
structure KpB (n0 Bf : Nat) (t : Int) (W W' : World) : Prop where
  below : Below n0 W W'
  box : W.heap[Bf]? = some (.cells #[.int .i64 t] 2 (0, 0)) → W'.heap[Bf]? = some (.cells #[.int .i64 t] 2 (0, 0))
/-- The contract of a sequence of points: all of them, or a prefix. -/
abbrev SeqP (f : Nat) (lb : Array Value) (L : List Pt) (n0 Bf : Nat) (t : Int) (w : World) : Prop := SeqStopsK Fence.wide 8 Try.prog f lb encP (KpB n0 Bf t) (fun xs => xs = L) (fun pre => pre <+: L) L.length w
set_option maxRecDepth 100000 in
set_option maxHeartbeats 4000000 in
theorem points1_nil {w : World} {Bb Bf n0 : Nat} {t : Int} (hb : w.heap[Bb]? = some (.cells #[.pointer none] 63 (0, 0))) : SeqP 90 #[.pointer (some ⟨Bb, 0, none⟩), .pointer (some ⟨Bf, 0, none⟩)] [] n0 Bf t w := by
  intro l J Jx W hW hJ hJx hY hJ0
  have cb := cellAt (o := 0) (v := .pointer none) (keepB hb hW) rfl
  have CR := Lib.hid (bright_nil W)
  clear hb hY
  refine callsIn_of_wp Try.func90 rfl trivial ?_ rfl
  simp only [Try.ntmps90, List.size_toArray, List.length_cons, List.length_nil, Nat.reduceAdd, Nat.reduceSub, Array.replicate_succ, Array.replicate_zero, List.push_toArray, List.append_toArray, List.nil_append, List.cons_append]
  gi_wp2_with (refine ⟨trivial, ?_⟩; refine (callsIn_wide.2 CR.out).mono ?_; rintro e w1 ⟨rfl, rfl⟩)
  refine bodyPost_ret (results_none rfl _ _ _) rfl ?_
  exact ⟨⟨_, rfl⟩, .inl ⟨_, rfl, hJ0⟩⟩
theorem iter_pre {Bs : List (List Pt)} {t : Int} {k m : Nat} {X : List Pt} (hk : k < Bs.length) (l1 : ∀ q ∈ (Bs.take k).flatten, q.1 < t) (hm : k + m < Bs.length) (hX : Bs[k + m] = X) (i : Nat) :
    aboveP t (((Bs.drop k).take m).flatten ++ X.take i) <+: aboveP t Bs.flatten := by
  have e : Bs.flatten = (Bs.take k).flatten ++ (Bs.drop k).flatten := by rw [← List.flatten_append, List.take_append_drop]
  have e2 : (Bs.drop k).flatten = ((Bs.drop k).take m).flatten ++ X ++ ((Bs.drop k).drop (m + 1)).flatten := by
    rw [flat_at (Bs := Bs.drop k) m (by rw [List.length_drop]; omega)]
    congr 2
    rw [List.getElem_drop]; exact hX
  rw [e, above_app t (Bs.take k).flatten, show aboveP t (Bs.take k).flatten = [] from filter_no (fun q hq => by have := l1 q hq; simp; omega), List.nil_append, e2]
  refine List.IsPrefix.filter _ ?_
  rw [List.append_assoc]
  exact (List.prefix_append_right_inj _).2 ((List.take_prefix _ _).trans (List.prefix_append _ _))
set_option maxRecDepth 100000 in
set_option maxHeartbeats 4000000 in
theorem points1_seq {w0 w : World} {F : Nat → Prop} {b Bb Bf : Nat} {P : List Pt} {fl t : Int} (h : BufL w0 F b P fl) (h0w : Below w0.heap.size w0 w) (hb : w.heap[Bb]? = some (.cells #[bptr b] 63 (0, 0))) (hf : w.heap[Bf]? = some (.cells #[.int .i64 t] 2 (0, 0))) :
    SeqP 90 #[.pointer (some ⟨Bb, 0, none⟩), .pointer (some ⟨Bf, 0, none⟩)] (aboveP t P) w0.heap.size Bf t w := by
  intro l J Jx W hW hJ hJx hY hJ0
  obtain ⟨Z, v, hc, hG, hP, hL⟩ := h
  have hW0 := h0w.trans (hW.mono h0w.size)
  have hcW := hc.below hW0
  have CR := Lib.hid (bright_any hcW)
  have cb := cellAt (o := 0) (v := bptr b) (keepB hb hW) rfl
  by_cases hz : Z = []
  · subst hz
    obtain ⟨A, c, rfl⟩ := hc.noB
    have k1 := cellAt (o := 1) (v := .slice A 0 c) hcW.buf rfl
    obtain rfl : P = [] := hP
    clear hc hcW hY
    refine callsIn_of_wp Try.func90 rfl trivial ?_ rfl
    simp only [Try.ntmps90, List.size_toArray, List.length_cons, List.length_nil, Nat.reduceAdd, Nat.reduceSub, Array.replicate_succ, Array.replicate_zero, List.push_toArray, List.append_toArray, List.nil_append, List.cons_append]
    gi_wp2_with (refine ⟨trivial, ?_⟩; refine (callsIn_wide.2 CR.out).mono ?_; rintro e w1 ⟨rfl, rfl⟩)
    refine bodyPost_ret (results_none rfl _ _ _) rfl ?_
    exact ⟨⟨_, rfl⟩, .inl ⟨_, rfl, hJ0⟩⟩
  · obtain ⟨g, o, c, rfl, z1, z2, z3, z4⟩ := hc.form hz
    obtain ⟨hk, l1, l2, l3⟩ := locate t hG (by simpa using hz)
    have hzl := good_len hG
    rw [← hP] at hzl
    have CT := Lib.hid (fun W' (h' : Below w0.heap.size w0 W') => bat_L t (hc.below h') hG hz (by omega))
    obtain ⟨k, hkk⟩ : ∃ k, atK t (tms (heads (Z.map (·.2)))) = k := ⟨_, rfl⟩
    simp only [hkk] at CT hk l1 l2 l3
    have hkl : k < Z.length := by simpa using hk
    have HC := Lib.hid hc
    have HB := Lib.hid hb
    have HF := Lib.hid hf
    have HW := Lib.hid hW
    have HW0 := Lib.hid hW0
    have HJ0 := Lib.hid hJ0
    have HY := Lib.hid hY
    have cf := cellAt (o := 0) (v := .int .i64 t) (keepB hf hW) rfl
    have k1 := cellAt (o := 1) (v := .slice (some ⟨g, o, none⟩) Z.length c) hcW.buf rfl
    clear hc hcW z4 hb hf
    obtain ⟨zl, hzz⟩ : ∃ zl, Z.length = zl := ⟨_, rfl⟩
    have HZZ := Lib.hid hzz
    rw [hzz] at k1 hkl z1 hzl
    have e5 : ¬ (zl : Int) = 0 := by omega
    have hck : ¬ c = k := by omega
    have hkz : k ≤ zl := by omega
    clear hzz hY hJ0
    refine callsIn_of_wp Try.func90 rfl trivial ?_ rfl
    simp only [Try.ntmps90, List.size_toArray, List.length_cons, List.length_nil, Nat.reduceAdd, Nat.reduceSub, Array.replicate_succ, Array.replicate_zero, List.push_toArray, List.append_toArray, List.nil_append, List.cons_append]
    gi_wp2_with (refine ⟨trivial, ?_⟩; refine (callsIn_wide.2 CR.out).mono ?_; rintro e w1 ⟨rfl, rfl⟩)
    refine wpIn_wide.2 ?_
    refine wp_region_here 10 [(0, false), (1, false), (2, false), (3, false), (4, false), (5, false), (6, false), (7, false), (8, false), (9, false)] (fun _ => .cells #[] 0) (by kernel_rfl) (by kernel_rfl) ?_
    repeat (first | (refine wpP_q rfl rfl rfl ?_; apply Exists.intro; refine ⟨fun w' hw' => ?_, fun K hK => ?_⟩; (focus ((have hw := HW.out.trans (hw'.mono HW.out.size); have q0 := cellAt (o := 0) (v := bptr b) (keepB HB.out hw) rfl; have q1 := cellAt (o := 0) (v := .int .i64 t) (keepB HF.out hw) rfl; have q2 := cellAt (o := 1) (v := .slice (some ⟨g, o, none⟩) zl c) (HC.out.below (HW0.out.trans (hw'.mono HW0.out.size))).buf (by rw [HZZ.out]; rfl); have HWW := Lib.hid (HW0.out.trans (hw'.mono HW0.out.size)); clear hw); go_simp; first | exact quiet_value | first | with_reducible exact quiet_enter (CT.out _ HWW.out))); simp only [Act.put, List.setIfInBounds_toArray, List.set_cons_zero, List.set_cons_succ]; refine hK.out _ ?_; clear hK K) | (refine wpP_skip rfl rfl rfl (fun K hK => ?_); simp only [Act.put, List.setIfInBounds_toArray, List.set_cons_zero, List.set_cons_succ]; refine hK.out _ ?_; clear hK K))
    refine wpP_nil ?_
    intro w1 hb1
    have HB1 := Lib.hid (HW0.out.trans (hb1.mono HW0.out.size))
    have HF1 : Hid (w1.heap[Bf]? = some (.cells #[.int .i64 t] 2 (0, 0))) := Lib.hid (keepB (keepB HF.out HW.out) hb1)
    have HJ1 : Hid (J [] w1) := Lib.hid (hJ [] W w1 none HJ0.out ⟨hb1.os, hb1.tape, hb1.output, hb1.size, fun k hk _ => hb1.block k hk⟩ (fun r e => by cases e))
    clear hb1 cb cf k1
    (try simp only [List.drop_succ_cons]); (try simp only [List.drop_zero]); (try simp only [List.drop_nil])
    unfold wpList
    simp only [Exit.then]
    gi_wp2
    simp only [show ((zl : Int) == 0) = false from beq_eq_false_iff_ne.2 e5]
    gi_loopw [28] (fun v28 wr => ∃ m : Nat, v28 = .int .i64 (m : Int) ∧ m ≤ zl - k ∧ Hid (J (aboveP t (((Z.map (·.2)).drop k).take m).flatten) wr) ∧ Hid (Below w0.heap.size w0 wr) ∧ Hid (wr.heap[Bf]? = some (.cells #[.int .i64 t] 2 (0, 0)))) (fun v28 _ => (zl - k) - (intOf v28).toNat)
    case atStart => exact ⟨0, rfl, Nat.zero_le _, by simpa [aboveP] using HJ1, HB1, HF1⟩
    case round =>
      clear HJ0 HJ1 HB1 HF1
      obtain ⟨m, rfl, hm, HJm, HBm, HFm⟩ := hrel
      by_cases hlt : m < zl - k
      · have hkm : k + m < Z.length := by rw [HZZ.out]; omega
        obtain ⟨g', o', c', he, z1', z2', z3', z4'⟩ := HC.out.form hz
        obtain ⟨⟨rfl, rfl⟩, rfl⟩ : (g = g' ∧ o = o') ∧ c = c' := by simpa using he
        have hcell := z4' (k + m) hkm
        obtain ⟨x, X, hx⟩ : ∃ x X, Z[k + m] = (x, X) := ⟨_, _, rfl⟩
        rw [hx] at hcell
        have hblk := (HC.out.blks _ (List.getElem_mem hkm)).2
        rw [hx] at hblk
        have g1 : wr.cell? ⟨g, o + k + m, none⟩ = some (.pointer (some ⟨x, 0, none⟩)) := by rw [Nat.add_assoc]; exact (HBm.out.cell (p := ⟨g, o + (k + m), none⟩) z3').trans hcell
        have CP := Lib.hid (bpoints_any (hblk.below HBm.out))
        have HBK := Lib.hid hblk
        have hx64 := hblk.le
        clear he z1' z2' z4' hcell hblk
        gi_wp2_with (refine ⟨trivial, ?_⟩; refine (callsIn_wide.2 CP.out).mono ?_; rintro e w2 ⟨rfl, hb2⟩)
        have HB2 := Lib.hid (HBm.out.trans (hb2.mono HBm.out.size))
        have HF2 : Hid (w2.heap[Bf]? = some (.cells #[.int .i64 t] 2 (0, 0))) := Lib.hid (keepB HFm.out hb2)
        have HJ2 : Hid (J (aboveP t (((Z.map (·.2)).drop k).take m).flatten) w2) := Lib.hid (hJ _ wr w2 none HJm.out ⟨hb2.os, hb2.tape, hb2.output, hb2.size, fun k hk _ => hb2.block k hk⟩ (fun r e => by cases e))
        obtain ⟨prev, hprev⟩ : ∃ prev, (((Z.map (·.2)).drop k).take m).flatten = prev := ⟨_, rfl⟩
        obtain ⟨xn, hxn⟩ : ∃ xn, X.length = xn := ⟨_, rfl⟩
        rw [hprev] at HJ2
        have HPV := Lib.hid hprev
        have HXN := Lib.hid hxn
        rw [hxn] at hx64 ⊢
        clear hb2 hprev hxn HJm HBm HFm CP g1
        gi_loopw [35] (fun v35 wr => ∃ j : Nat, v35 = .int .i64 (j : Int) ∧ j ≤ xn ∧ Hid (J (aboveP t (prev ++ X.take j)) wr) ∧ Hid (Below w0.heap.size w0 wr) ∧ Hid (wr.heap[Bf]? = some (.cells #[.int .i64 t] 2 (0, 0)))) (fun v35 _ => xn - (intOf v35).toNat)
        case atStart => exact ⟨0, rfl, Nat.zero_le _, by simpa using HJ2, HB2, HF2⟩
        case round =>
          clear HJ2 HB2 HF2
          obtain ⟨j, rfl, hj, HJj, HBj, HFj⟩ := hrel
          by_cases hjl : j < xn
          · have hjX : j < X.length := by rw [HXN.out]; exact hjl
            have hpt := (HBK.out.below HBj.out).pt hjX
            obtain ⟨p, hp⟩ : ∃ p, X[j] = p := ⟨_, rfl⟩
            rw [hp] at hpt
            obtain ⟨p0, p1, p2⟩ := hpt
            have cf := cellAt (o := 0) (v := .int .i64 t) HFj.out rfl
            have hwj : IntKind.i64.wrap ((j : Int) + 1) = (j : Int) + 1 := by rw [IntKind.wrap_i64]; omega
            have cf2 := cellAt (o := 0) (v := .int .i64 t) (keepA HFj.out (Obj.cells #[.int .i64 (p).1, .int .i64 (p).2, .bool false] 86)) rfl
            have n0 := cellAt (o := 0) (v := .int .i64 p.1) (newB wr (Obj.cells #[.int .i64 (p).1, .int .i64 (p).2, .bool false] 86)) rfl
            have n1 := cellAt (o := 1) (v := .int .i64 p.2) (newB wr (Obj.cells #[.int .i64 (p).1, .int .i64 (p).2, .bool false] 86)) rfl
            have n2 := cellAt (o := 2) (v := .bool false) (newB wr (Obj.cells #[.int .i64 (p).1, .int .i64 (p).2, .bool false] 86)) rfl
            have HBa := Lib.hid (HBj.out.trans ((below_alloc (Below.refl wr.heap.size wr) (Obj.cells #[.int .i64 (p).1, .int .i64 (p).2, .bool false] 86)).mono HBj.out.size))
            have HFa : Hid ((wr.alloc (Obj.cells #[.int .i64 (p).1, .int .i64 (p).2, .bool false] 86)).heap[Bf]? = some (.cells #[.int .i64 t] 2 (0, 0))) := Lib.hid (keepA HFj.out _)
            have HJa : Hid (J (aboveP t (prev ++ X.take j)) (wr.alloc (Obj.cells #[.int .i64 (p).1, .int .i64 (p).2, .bool false] 86))) := Lib.hid (hJ _ wr _ none HJj.out (World.grownBy_alloc wr _ none) (fun r e => by cases e))
            have hpre := iter_pre (t := t) hk l1 (m := m) (X := X) (by simpa using hkm) (by rw [List.getElem_map]; exact congrArg Prod.snd hx) (j + 1)
            rw [HPV.out, ← hP] at hpre
            have htk : X.take (j + 1) = X.take j ++ [p] := by rw [← hp, List.take_append_getElem]
            rw [htk, ← List.append_assoc, above_app] at hpre
            have HPR := Lib.hid hpre
            have HTK := Lib.hid htk
            clear hpre htk
            by_cases e1 : t < p.1
            · have hsp : aboveP t [p] = [p] := by simp [aboveP, e1]
              have hln : (aboveP t (prev ++ X.take j)).length < (aboveP t P).length := by
                have := HPR.out.length_le
                rw [hsp] at this; simp at this; omega
              obtain ⟨fn, tm, asg, bd, hy, hR⟩ := HY.out _ p _ HJa.out hln
              clear hln
              gi_wp2
              refine hR.mono ?_
              rintro e W3 (⟨rfl, hJ3, hk3⟩ | ⟨rfl, hJx3⟩)
              · have HJ3 := Lib.hid hJ3
                have HB3 := Lib.hid (HBa.out.trans hk3.below)
                have HF3 := Lib.hid (hk3.box HFa.out)
                clear hJ3 hk3 hy hR cf cf2 n0 n1 n2 p0 p1 p2
                gi_wp2
                go_roundw
                case rel => exact ⟨j + 1, by rfl, by omega, by rw [HTK.out, ← List.append_assoc, above_app, hsp]; exact HJ3, HB3, HF3⟩
                case measure => simp [intOf]; omega
              · gi_wp2
                refine bodyPost_ret (results_none rfl _ _ _) rfl ?_
                exact ⟨⟨_, rfl⟩, .inr ⟨_, by have := HPR.out; rw [hsp] at this; exact this, hJx3⟩⟩
            · have hsp : aboveP t [p] = [] := by simp [aboveP, e1]
              gi_wp2
              refine ⟨fun f h => (by cases h), ?_⟩
              gi_wp2
              go_roundw
              case rel => exact ⟨j + 1, by rfl, by omega, by rw [HTK.out, ← List.append_assoc, above_app, hsp, List.append_nil]; exact HJa, HBa, HFa⟩
              case measure => simp [intOf]; omega
          · obtain rfl : j = xn := by omega
            have hwm : IntKind.i64.wrap ((m : Int) + 1) = (m : Int) + 1 := by rw [IntKind.wrap_i64]; omega
            have hBk : (Z.map (·.2))[k + m]'(by simpa using hkm) = X := by rw [List.getElem_map]; exact congrArg Prod.snd hx
            have hnx : (((Z.map (·.2)).drop k).take (m + 1)).flatten = prev ++ X := by
              rw [← HPV.out, ← List.take_append_getElem (show m < ((Z.map (·.2)).drop k).length by rw [List.length_drop, List.length_map, HZZ.out]; omega), List.flatten_append]
              congr 1
              rw [List.getElem_drop, hBk]; simp
            gi_wp2
            go_roundw
            case rel =>
              have HJn : Hid (J (aboveP t (((Z.map (·.2)).drop k).take (m + 1)).flatten) wr) := by rw [hnx]; have := HJj; rwa [List.take_of_length_le (by rw [HXN.out]; exact Nat.le_refl _)] at this
              exact ⟨m + 1, by rfl, by omega, HJn, HBj, HFj⟩
            case measure => simp [intOf]; omega
      · obtain rfl : m = zl - k := by omega
        gi_wp2
        go_end0
        refine ⟨⟨_, rfl⟩, .inl ⟨_, rfl, ?_⟩⟩
        have hend : aboveP t P = aboveP t (((Z.map (·.2)).drop k).take (zl - k)).flatten := by
          rw [List.take_of_length_le (by rw [List.length_drop, List.length_map, HZZ.out]; exact Nat.le_refl _), hP]
          have e : (Z.map (·.2)).flatten = ((Z.map (·.2)).take k).flatten ++ ((Z.map (·.2)).drop k).flatten := by rw [← List.flatten_append, List.take_append_drop]
          rw [e, above_app t ((Z.map (·.2)).take k).flatten, show aboveP t ((Z.map (·.2)).take k).flatten = [] from filter_no (fun q hq => by have := l1 q hq; simp; omega), List.nil_append]
        rw [hend]; exact HJm.out
end Go.Proofs.Ytangcgfchalnaaa

/- Objects that lie side by side, each in memory of its own. No program. -/
namespace Go.Proofs.Ytangcgfchalnaaa
open Go.RowKit
/-- What an object says of the world, and in which blocks it lies. -/
abbrev Ob := World → (Nat → Prop) → Prop
/-- An object speaks of its own blocks alone. -/
structure Obj1 (A : Ob) : Prop where
  keep : ∀ {w w' : World} {F S : Nat → Prop}, A w F → Only S w w' → (∀ k, F k → k < w.heap.size → ¬ S k) → A w' F
  old : ∀ {w : World} {F : Nat → Prop}, A w F → A w (fun k => F k ∧ k < w.heap.size)
  weak : ∀ {w : World} {F G : Nat → Prop}, A w F → (∀ k, k < w.heap.size → F k → G k) → A w G
/-- Two objects side by side. -/
def Star (A B : Ob) : Ob := fun w H => ∃ F G : Nat → Prop, A w F ∧ B w G ∧ (∀ k, ¬ (F k ∧ G k)) ∧ (∀ k, F k → H k) ∧ ∀ k, G k → H k
/-- A step of an object: what it is now; it turned its own blocks alone, and laid new ones. -/
def Goes (A : Ob) (F : Nat → Prop) (w w' : World) : Prop := ∃ F', A w' F' ∧ (∀ k, F' k → (F k ∨ w.heap.size ≤ k) ∧ k < w'.heap.size) ∧ Only F w w'
section
variable {A A' B B' : Ob} {w w' w0 : World} {F G H : Nat → Prop}
theorem Obj1.below (h : Obj1 A) (ha : A w F) (hb : Below w.heap.size w w') : A w' F := h.keep (S := fun _ => False) ha (Only.of_below hb) (fun _ _ _ h => h)
theorem Star.obj (ha : Obj1 A) (hb : Obj1 B) : Obj1 (Star A B) where
  keep := fun ⟨F, G, h1, h2, h3, h4, h5⟩ ho hn => ⟨F, G, ha.keep h1 ho (fun k hk hl => hn k (h4 k hk) hl), hb.keep h2 ho (fun k hk hl => hn k (h5 k hk) hl), h3, h4, h5⟩
  old := fun {w _} ⟨F, G, h1, h2, h3, h4, h5⟩ => ⟨fun k => F k ∧ k < w.heap.size, fun k => G k ∧ k < w.heap.size, ha.old h1, hb.old h2, fun k hk => h3 k ⟨hk.1.1, hk.2.1⟩, fun k hk => ⟨h4 k hk.1, hk.2⟩, fun k hk => ⟨h5 k hk.1, hk.2⟩⟩
  weak := fun {w _ _} ⟨F, G, h1, h2, h3, h4, h5⟩ hG => ⟨fun k => F k ∧ k < w.heap.size, fun k => G k ∧ k < w.heap.size, ha.old h1, hb.old h2, fun k hk => h3 k ⟨hk.1.1, hk.2.1⟩, fun k hk => hG k hk.2 (h4 k hk.1), fun k hk => hG k hk.2 (h5 k hk.1)⟩
theorem Star.goes1 (hb : Obj1 B) (h2 : B w G) (h3 : ∀ k, ¬ (F k ∧ G k)) (h4 : ∀ k, F k → H k) (h5 : ∀ k, G k → H k) (hg : Goes A' F w w') : Goes (Star A' B) H w w' := by
  obtain ⟨F', g1, g2, g3⟩ := hg
  refine ⟨fun k => (H k ∨ w.heap.size ≤ k) ∧ k < w'.heap.size, ⟨F', fun k => G k ∧ k < w.heap.size, g1, hb.keep (hb.old h2) g3 (fun k hk _ hF => h3 k ⟨hF, hk.1⟩), fun k hk => ?_, fun k hk => ⟨(g2 k hk).1.imp (h4 k) id, (g2 k hk).2⟩, fun k hk => ⟨.inl (h5 k hk.1), Nat.lt_of_lt_of_le hk.2 g3.size⟩⟩, fun k hk => hk, g3.mono (fun k _ => h4 k)⟩
  rcases (g2 k hk.1).1 with h | h
  · exact h3 k ⟨h, hk.2.1⟩
  · have := hk.2.2; omega
theorem Star.comm (h : Star A B w H) : Star B A w H := by
  obtain ⟨F, G, h1, h2, h3, h4, h5⟩ := h; exact ⟨G, F, h2, h1, fun k hk => h3 k ⟨hk.2, hk.1⟩, h5, h4⟩
theorem Goes.mono {A A' : Ob} (h : Goes A F w w') (hm : ∀ F', A w' F' → A' w' F') : Goes A' F w w' := by
  obtain ⟨F', g1, g2, g3⟩ := h; exact ⟨F', hm F' g1, g2, g3⟩
theorem Star.goes2 (ha : Obj1 A) (h1 : A w F) (h3 : ∀ k, ¬ (F k ∧ G k)) (h4 : ∀ k, F k → H k) (h5 : ∀ k, G k → H k) (hg : Goes B' G w w') : Goes (Star A B') H w w' :=
  (Star.goes1 ha h1 (fun k hk => h3 k ⟨hk.2, hk.1⟩) h5 h4 hg).mono (fun _ h => h.comm)
theorem Goes.below (ha : Obj1 A) (h : A w F) (hb : Below w.heap.size w w') : Goes A F w w' :=
  ⟨fun k => F k ∧ k < w.heap.size, ha.below (ha.old h) hb, fun _ hk => ⟨.inl hk.1, Nat.lt_of_lt_of_le hk.2 hb.size⟩, Only.of_below hb⟩
theorem Goes.trans {A' A'' : Ob} {w'' : World} (h : Goes A' F w w') (hk : ∀ F', A' w' F' → Goes A'' F' w' w'') : Goes A'' F w w'' := by
  obtain ⟨F', g1, g2, g3⟩ := h
  obtain ⟨F2, k1, k2, k3⟩ := hk F' g1
  refine ⟨F2, k1, fun k hk => ⟨?_, (k2 k hk).2⟩, g3.then k3 (fun i hi hF => ?_)⟩
  · rcases (k2 k hk).1 with h | h
    · exact (g2 k h).1
    · have := g3.size; exact .inr (by omega)
  · exact (g2 i hF).1.resolve_right (by omega)
/-- Objects of a law's own: they lie behind w0. -/
structure LM (w0 : World) (A : Ob) (w : World) : Prop where
  below : Below w0.heap.size w0 w
  mem : ∃ F, A w F ∧ ∀ k, F k → w0.heap.size ≤ k
theorem LM.go (ha : Obj1 A) (h : LM w0 A w) (hb : Below w.heap.size w w') : LM w0 A w' := by
  obtain ⟨h1, F, h2, h3⟩ := h
  exact ⟨h1.trans (hb.mono h1.size), F, ha.below h2 hb, h3⟩
theorem LM.size (h : LM w0 A w) : w0.heap.size ≤ w.heap.size := h.below.size
theorem LM.goes (h : LM w0 A w) (hg : ∀ F, A w F → Goes A' F w w') : LM w0 A' w' := by
  obtain ⟨h1, F, h2, h3⟩ := h
  obtain ⟨F', g1, g2, g3⟩ := hg F h2
  refine ⟨h1.trans (g3.below h3 h1.size), F', g1, fun k hk => ?_⟩
  rcases (g2 k hk).1 with h | h
  · exact h3 k h
  · have := h1.size; omega
theorem LM.mono {A A' : Ob} (h : LM w0 A w) (hm : ∀ F, A w F → A' w F) : LM w0 A' w := ⟨h.below, by obtain ⟨F, h2, h3⟩ := h.mem; exact ⟨F, hm F h2, h3⟩⟩
theorem LM.comm (h : LM w0 (Star A B) w) : LM w0 (Star B A) w := h.mono (fun _ h => h.comm)
theorem LM.assoc {C : Ob} (h : LM w0 (Star (Star A B) C) w) : LM w0 (Star A (Star B C)) w := h.mono (fun _ ⟨_, G, ⟨F1, F2, h1, h2, h3, h4, h5⟩, g2, g3, g4, g5⟩ =>
  ⟨F1, fun k => F2 k ∨ G k, h1, ⟨F2, G, h2, g2, fun k hk => g3 k ⟨h5 k hk.1, hk.2⟩, fun _ hk => .inl hk, fun _ hk => .inr hk⟩, fun k hk => hk.2.elim (fun h => h3 k ⟨hk.1, h⟩) (fun h => g3 k ⟨h4 k hk.1, h⟩), fun k hk => g4 k (h4 k hk), fun k hk => hk.elim (fun h => g4 k (h5 k h)) (g5 k)⟩)
/-- A call that turns the object. -/
theorem LM.turn (h : LM w0 A w) {P : Program} {R : Ending → Prop} {f : Nat} {args : Array Value} (hc : ∀ F, A w F → Calls P f args w fun e w' => R e ∧ Goes A' F w w') : Calls P f args w fun e w' => R e ∧ LM w0 A' w' := by
  obtain ⟨F, h2, h3⟩ := h.mem
  refine (hc F h2).mono ?_
  rintro e w' ⟨hr, F', g1, g2, g3⟩
  refine ⟨hr, h.below.trans (g3.below h3 h.size), F', g1, fun k hk => ?_⟩
  rcases (g2 k hk).1 with hx | hx
  · exact h3 k hx
  · have := h.size; omega
theorem LM.turn1 (hB : Obj1 B) (h : LM w0 (Star A B) w) {P : Program} {R : Ending → Prop} {f : Nat} {args : Array Value} (hc : ∀ F, A w F → Calls P f args w fun e w' => R e ∧ Goes A' F w w') : Calls P f args w fun e w' => R e ∧ LM w0 (Star A' B) w' :=
  h.turn (fun _ ⟨F, _, h1, h2, h3, h4, h5⟩ => (hc F h1).mono fun _ _ ⟨a, b⟩ => ⟨a, Star.goes1 hB h2 h3 h4 h5 b⟩)
theorem LM.turn2 (hA : Obj1 A) (h : LM w0 (Star A B) w) {P : Program} {R : Ending → Prop} {f : Nat} {args : Array Value} (hc : ∀ F, B w F → Calls P f args w fun e w' => R e ∧ Goes B' F w w') : Calls P f args w fun e w' => R e ∧ LM w0 (Star A B') w' :=
  h.turn (fun _ ⟨_, G, h1, h2, h3, h4, h5⟩ => (hc G h2).mono fun _ _ ⟨a, b⟩ => ⟨a, Star.goes2 hA h1 h3 h4 h5 b⟩)
/-- A call that reads it. -/
theorem LM.read (h : LM w0 A w) {P : Program} {R : Ending → World → Prop} {f : Nat} {args : Array Value} (hc : ∀ F, A w F → Calls P f args w R) : Calls P f args w R := by
  obtain ⟨F, h2, _⟩ := h.mem
  exact hc F h2
theorem LM.read1 (h : LM w0 (Star A B) w) {P : Program} {R : Ending → World → Prop} {f : Nat} {args : Array Value} (hc : ∀ F, A w F → Calls P f args w R) : Calls P f args w R :=
  h.read (fun _ ⟨F, _, h1, _⟩ => hc F h1)
theorem LM.read2 (h : LM w0 (Star A B) w) {P : Program} {R : Ending → World → Prop} {f : Nat} {args : Array Value} (hc : ∀ F, B w F → Calls P f args w R) : Calls P f args w R :=
  h.read (fun _ ⟨_, G, _, h2, _⟩ => hc G h2)
/-- One more object, in new blocks. -/
theorem LM.more (hA : Obj1 A) (h : LM w0 A w) (hb : Below w.heap.size w w') {F : Nat → Prop} (hB : B w' F) (hF : ∀ k, F k → w.heap.size ≤ k) : LM w0 (Star A B) w' := by
  obtain ⟨h1, G, h2, h3⟩ := h
  refine ⟨h1.trans (hb.mono h1.size), fun k => w0.heap.size ≤ k, ⟨fun k => G k ∧ k < w.heap.size, F, hA.below (hA.old h2) hb, hB, fun k hk => ?_, fun k hk => h3 k hk.1, fun k hk => ?_⟩, fun k hk => hk⟩
  · have := hF k hk.2; have := hk.1.2; omega
  · have := hF k hk; have := h1.size; omega
theorem LM.first (hb : Below w0.heap.size w0 w) (h : Below w.heap.size w w') {F : Nat → Prop} (hB : B w' F) (hF : ∀ k, F k → w.heap.size ≤ k) : LM w0 B w' :=
  ⟨hb.trans (h.mono hb.size), F, hB, fun k hk => by have := hF k hk; have := hb.size; omega⟩
end
/-- A variable's box, or whatever lies in one block. -/
def BoxO (i : Nat) (x : Obj) : Ob := fun w F => F i ∧ w.heap[i]? = some x
theorem BoxO.obj (i : Nat) (x : Obj) : Obj1 (BoxO i x) where
  keep := fun h ho hn => ⟨h.1, ho.get h.2 (hn i h.1 (only_lt h.2))⟩
  old := fun h => ⟨⟨h.1, only_lt h.2⟩, h.2⟩
  weak := fun h hG => ⟨hG i (only_lt h.2) h.1, h.2⟩
theorem LM.box {A : Ob} {w0 w : World} (hA : Obj1 A) (h : LM w0 A w) (x : Obj) (hx : (w.alloc x).heap[w.heap.size]? = some x) : LM w0 (Star A (BoxO w.heap.size x)) (w.alloc x) :=
  h.more hA (below_alloc (Below.refl _ _) x) (F := fun k => k = w.heap.size) ⟨rfl, hx⟩ (fun k e => by omega)
/-- A slice of the law's own. -/
def RowO (e : TypeId) (size : Nat) (v : Value) (n : Nat) (xs : List Value) : Ob := fun w F => RowAt w F e size v n xs
theorem RowO.obj (e : TypeId) (size : Nat) (v : Value) (n : Nat) (xs : List Value) : Obj1 (RowO e size v n xs) where
  keep := fun h ho hn => h.keep ho hn
  old := fun h => h.weak (fun _ hk hF => ⟨hF, hk⟩)
  weak := fun h hG => h.weak hG
theorem RowO.cell {e : TypeId} {size n g c : Nat} {xs : List Value} {w : World} {F : Nat → Prop} (h : RowO e size (.slice (some ⟨g, 0, none⟩) n c) n xs w F) {j : Nat} {u : Value} (hu : xs[j]? = some u) : w.cell? ⟨g, j, none⟩ = some u := by
  rcases h.2 with ⟨h1, _⟩ | ⟨g', o, cap, cur, h1, h2, h3, h4, h5, h6, h7⟩
  · cases h1
  · cases h1
    have := row_cells (size := size) h3 h7 h4 j u hu
    have hadd : (⟨g, 0, none⟩ : Addr).add j = ⟨g, j, none⟩ := by unfold Addr.add; split <;> simp_all
    rwa [hadd] at this
theorem LM.row2 {A : Ob} {w0 w : World} {e : TypeId} {size n g c : Nat} {xs : List Value} (h : LM w0 (Star A (RowO e size (.slice (some ⟨g, 0, none⟩) n c) n xs)) w) {j : Nat} {u : Value} (hu : xs[j]? = some u) : w.cell? ⟨g, j, none⟩ = some u := by
  obtain ⟨_, F, ⟨_, G, _, h2, _⟩, _⟩ := h
  exact h2.cell hu
theorem LM.row {w0 w : World} {e : TypeId} {size n g c : Nat} {xs : List Value} (h : LM w0 (RowO e size (.slice (some ⟨g, 0, none⟩) n c) n xs) w) {j : Nat} {u : Value} (hu : xs[j]? = some u) : w.cell? ⟨g, j, none⟩ = some u := by
  obtain ⟨_, F, h2, _⟩ := h
  exact RowO.cell h2 hu
theorem LM.snd {A B : Ob} {w0 w : World} (h : LM w0 (Star A B) w) : LM w0 B w := ⟨h.below, by obtain ⟨F, ⟨_, G, _, h2, _, _, h5⟩, h3⟩ := h.mem; exact ⟨G, h2, fun k hk => h3 k (h5 k hk)⟩⟩
theorem LM.fst {A B : Ob} {w0 w : World} (h : LM w0 (Star A B) w) : LM w0 A w := h.comm.snd
/-! ### A slice of the call's own, as the kit says it -/
section
variable {w w' : World} {base base' : Nat} {e : TypeId} {size n : Nat} {v : Value} {xs : List Value} {a : Option Addr} {c : Nat}
theorem or_form (h : w.ownsRow base e size v n xs) : ∃ a cap, v = .slice a n cap := by
  rcases h.2 with ⟨rfl, rfl⟩ | ⟨g, cap, _, rfl, _⟩
  · exact ⟨none, 0, rfl⟩
  · exact ⟨_, _, rfl⟩
theorem or_addr (h : w.ownsRow base e size (.slice a n c) n xs) (h0 : 0 < n) : ∃ g, a = some ⟨g, 0, none⟩ := by
  rcases h.2 with ⟨h1, h2⟩ | ⟨g, _, _, h1, _⟩
  · omega
  · cases h1; exact ⟨g, rfl⟩
theorem or_below (h : w.ownsRow base e size v n xs) (hb : Below w.heap.size w w') : w'.ownsRow base e size v n xs :=
  ⟨h.1, h.2.imp id fun ⟨g, cap, cur, h1, h2, h3, h4⟩ => ⟨g, cap, cur, h1, h2, keepB h3 hb, h4⟩⟩
theorem or_base (h : w.ownsRow base e size v n xs) (hb : base' ≤ base) : w.ownsRow base' e size v n xs :=
  ⟨h.1, h.2.imp id (by rintro ⟨g, cap, cur, h1, h2, h3⟩; exact ⟨g, cap, cur, h1, Nat.le_trans hb h2, h3⟩)⟩
theorem or_at (h : w.ownsRow base e size v n xs) : RowAt w (fun k => base ≤ k) e size v n xs :=
  ⟨h.1, h.2.imp id fun ⟨g, cap, cur, h1, h2, h3, h4, h5, h6, h7⟩ => ⟨g, 0, cap, cur, h1, h2, h3, h4, h5, by omega, by simpa using h7⟩⟩
/-- A row that a call has handed back, beside what lay there. -/
theorem LM.rows {A : Ob} {w0 : World} (hA : Obj1 A) (h : LM w0 A w) (hb : Below w.heap.size w w') (hr : w'.ownsRow w.heap.size e size v n xs) : LM w0 (Star A (RowO e size v n xs)) w' :=
  h.more hA hb (F := fun k => w.heap.size ≤ k) (or_at hr) (fun _ h => h)
theorem or_cell {g : Nat} (h : w.ownsRow base e size (.slice (some ⟨g, 0, none⟩) n c) n xs) {j : Nat} {u : Value} (hu : xs[j]? = some u) : w.cell? ⟨g, j, none⟩ = some u := by
  rcases h.2 with ⟨h1, _⟩ | ⟨g', cap, cur, h1, h2, h3, h4, h5, h6, h7⟩
  · cases h1
  · cases h1
    have := row_cells (o := 0) (n := n) (size := size) (c := c) (xs := xs) h3 (by simpa using h7) h4 j u hu
    have hadd : (⟨g, 0, none⟩ : Addr).add j = ⟨g, j, none⟩ := by unfold Addr.add; split <;> simp_all
    rwa [hadd] at this
end
end Go.Proofs.Ytangcgfchalnaaa
