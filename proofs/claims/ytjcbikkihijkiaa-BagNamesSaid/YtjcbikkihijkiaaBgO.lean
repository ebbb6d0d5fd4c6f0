/- A bag's iterator: its numbers, rising, by a stack of its own. -/
import Derived.Test.YtjcbikkihijkiaaBgI
namespace Go.Proofs.Ytjcbikkihijkiaa
open Go.RowKit Go.Shelf
attribute [local go_sem] Oper.semAt_some
/-! ### The least number of which something is so: a loop's measure by a letter -/
theorem exists_least (P : Nat → Prop) : ∀ (m : Nat), P m → ∃ k, P k ∧ ∀ j, P j → k ≤ j := fun m => by
  induction m using Nat.strongRecOn with
  | ind m ih =>
    intro h
    by_cases hx : ∃ j, j < m ∧ P j
    · obtain ⟨j, h1, h2⟩ := hx; exact ih j h1 h2
    · refine ⟨m, h, fun j hj => ?_⟩
      rcases Nat.lt_or_ge j m with h1 | h1
      · exact (hx ⟨j, h1, hj⟩).elim
      · exact h1
open Classical in
noncomputable def least (P : Nat → Prop) : Nat := if h : ∃ k, P k ∧ ∀ j, P j → k ≤ j then h.choose else 0
theorem least_spec {P : Nat → Prop} (h : ∃ m, P m) : P (least P) := by
  obtain ⟨m, hm⟩ := h
  have hx := exists_least P m hm
  unfold least
  rw [dif_pos hx]
  exact hx.choose_spec.1
theorem least_le {P : Nat → Prop} {m : Nat} (hm : P m) : least P ≤ m := by
  have hx := exists_least P m hm
  unfold least
  rw [dif_pos hx]
  exact hx.choose_spec.2 m hm
/-! ### The stack -/
abbrev SEl := Nat × Int × Nat × Tr
def SEW (w : World) (e : SEl) : Prop := ∃ a v pl pr Fr, NodeW w e.1 e.2.1 e.2.2.1 a v pl pr ∧ TreeW w Fr pr e.2.2.2
def restS : List SEl → List (Int × Nat)
  | [] => []
  | e :: s => (e.2.1, e.2.2.1) :: (e.2.2.2.lst ++ restS s)
theorem restS_length : ∀ s : List SEl, s.length ≤ (restS s).length
  | [] => Nat.le_refl _
  | e :: s => by have := restS_length s; simp only [restS, List.length_cons, List.length_append]; omega
def ptrS (s : List SEl) : List Value := (s.map fun e => Value.pointer (some ⟨e.1, 0, none⟩)).reverse
theorem ptrS_length (s : List SEl) : (ptrS s).length = s.length := by simp [ptrS]
theorem ptrS_cons (e : SEl) (s : List SEl) : ptrS (e :: s) = ptrS s ++ [Value.pointer (some ⟨e.1, 0, none⟩)] := by simp [ptrS]
theorem ptrS_top (e : SEl) (s : List SEl) : (ptrS (e :: s))[s.length]? = some (Value.pointer (some ⟨e.1, 0, none⟩)) := by
  rw [ptrS_cons, List.getElem?_append_right (by rw [ptrS_length]; exact Nat.le_refl _), ptrS_length]; simp
theorem ownsRow_form {w : World} {base : Nat} {e : TypeId} {size : Nat} {v : Value} {n : Nat} {xs : List Value} (h : w.ownsRow base e size v n xs) : ∃ a cap, v = .slice a n cap := by
  rcases h.2 with ⟨rfl, rfl⟩ | ⟨g, cap, _, rfl, _⟩
  · exact ⟨none, 0, rfl⟩
  · exact ⟨_, _, rfl⟩
theorem ownsRow_pop {w : World} {base : Nat} {e : TypeId} {g n cap : Nat} {xs : List Value} {x : Value} (h : w.ownsRow base e 1 (.slice (some ⟨g, 0, none⟩) (n + 1) cap) (n + 1) (xs ++ [x])) : w.ownsRow base e 1 (.slice (some ⟨g, 0, none⟩) n cap) n xs := by
  have hl : xs.length = n := by have := h.1; simp at this; omega
  rcases h.2 with ⟨h1, _⟩ | ⟨g', cap', cur, h1, h2, h3, h4, h5, h6, h7⟩
  · cases h1
  · cases h1
    refine ⟨by omega, .inr ⟨_, _, cur, rfl, h2, h3, by omega, h5, h6, ?_⟩⟩
    rw [Nat.mul_one] at h7 ⊢
    have h8 := congrArg (List.take n) h7
    rw [List.take_take, Nat.min_eq_left (by omega), List.take_append_of_le_length (by omega), List.take_of_length_le (l := xs) (by omega)] at h8
    exact h8
theorem ownsRow_cap {w : World} {base : Nat} {e : TypeId} {size : Nat} {a : Option Addr} {n cap m : Nat} {xs : List Value} (h : w.ownsRow base e size (.slice a m cap) n xs) : m = n ∧ n ≤ cap := by
  rcases h.2 with ⟨h1, h2⟩ | ⟨g, cap', cur, h1, _, _, h4, _⟩
  · cases h1; omega
  · cases h1; omega
theorem ownsRow_keepT {w w' : World} {n₀ base : Nat} {e : TypeId} {size : Nat} {v : Value} {n : Nat} {xs : List Value} (h : w.ownsRow base e size v n xs) (hk : KeepT e n₀ w w') : w'.ownsRow base e size v n xs := by
  refine ⟨h.1, h.2.imp id ?_⟩
  rintro ⟨g, cap, cur, h1, h2, h3, h4⟩
  exact ⟨g, cap, cur, h1, h2, hk.same g _ _ h3, h4⟩
theorem row_turn {w : World} {base : Nat} {e : TypeId} {size : Nat} {v : Value} {n : Nat} {xs : List Value} (h : w.ownsRow base e size v n xs) : ∀ r, v.ownBlock = some r → base ≤ r ∧ ∃ o : Obj, w.heap[r]? = some o ∧ TurnT e o := by
  intro r hr
  rcases h.2 with ⟨rfl, _⟩ | ⟨g, cap, cur, rfl, h2, h3, _⟩
  · cases hr
  · obtain rfl : g = r := by simpa [Value.ownBlock] using hr
    exact ⟨h2, _, h3, .inr ⟨_, _, rfl⟩⟩
theorem AbidesT.push {β : Type} {T : TypeId} {B : Nat} {J : β → World → Prop} (hJ : AbidesT T B J) {s : β} {W w1 : World} {o : Obj} {size : Nat} {v : Value} {n : Nat} {xs : List Value} (hs : J s W) (hrow : W.ownsRow B T size v n xs) (hg : (W.alloc o).grownBy w1 v.ownBlock) : J s w1 :=
  hJ s (W.alloc o) w1 _ (hJ s W _ none hs (World.grownBy_alloc W o none) (fun r e => by cases e)) hg (row_turn (hrow.alloc o))
theorem below_push {T : TypeId} {n₀ B : Nat} {w W w1 : World} {o : Obj} {size : Nat} {v : Value} {n : Nat} {xs : List Value} (hb : Below n₀ w W) (hn : n₀ ≤ W.heap.size) (hB : n₀ ≤ B) (hrow : W.ownsRow B T size v n xs) (hg : (W.alloc o).grownBy w1 v.ownBlock) : Below n₀ w w1 :=
  (hb.alloc hn o).grown hg (by rw [alloc_size]; omega) (fun k e => Nat.le_trans hB (row_turn hrow k e).1)
theorem ptr_info : (Try.prog.info? 56).map (fun i => (i.zero, i.size, i.bytes)) = some (some (.pointer none), 1, 8) := by kernel_rfl
/-- The iterator's state: the outer loop. -/
def ItR (J : List (Int × Nat) → World → Prop) (w : World) (B : Nat) (L : List (Int × Nat)) (v3 v4 : Value) (wr : World) (m : Nat) : Prop :=
  ∃ pre stk p Fp T, v4 = pv p ∧ J pre wr ∧ Below w.heap.size w wr ∧ B ≤ wr.heap.size ∧ TreeW w Fp p T ∧ (∀ e ∈ stk, SEW w e) ∧ wr.ownsRow B 56 1 v3 stk.length (ptrS stk) ∧
    L = pre ++ (T.lst ++ restS stk) ∧ pre.length + m = L.length
/-- Within the inner loop: what came stays. -/
def InR (J : List (Int × Nat) → World → Prop) (w : World) (B : Nat) (L : List (Int × Nat)) (pre : List (Int × Nat)) (v3 v4 : Value) (wr : World) (m : Nat) : Prop :=
  ∃ stk p Fp T, v4 = pv p ∧ J pre wr ∧ Below w.heap.size w wr ∧ B ≤ wr.heap.size ∧ TreeW w Fp p T ∧ (∀ e ∈ stk, SEW w e) ∧ wr.ownsRow B 56 1 v3 stk.length (ptrS stk) ∧
    L = pre ++ (T.lst ++ restS stk) ∧ (T.lst ++ restS stk ≠ []) ∧ m = T.cnt
section
variable {w : World} {F : Nat → Prop} {b o Bb : Nat} {T : Tr}
set_option maxRecDepth 100000 in
set_option maxHeartbeats 4000000 in
theorem counts1_seq (h : BagT w F b T o) (hbox : w.heap[Bb]? = some (.cells #[.pointer (some ⟨b, 0, none⟩)] 24 (0, 0))) (hL : T.lst.length ≤ 1099511627776) :
    SeqT 56 56 #[.pointer (some ⟨Bb, 0, none⟩)] oftE T.lst w := by
  intro l J W hW hJ hY hJ0
  obtain ⟨i0, hi, hz0, hz1, hz2⟩ := info_parts ptr_info
  have hbx := keepB hbox hW
  have cb := cellAt (o := 0) hbx rfl
  have CR := Lib.hid (right_any (h.below hW))
  obtain ⟨p, Ft, h1, h2, h3, h4⟩ := h
  have h2' := keepB h2 hW
  obtain ⟨v, hv⟩ : ∃ v, pv p = v := ⟨_, rfl⟩
  have c1 := cellAt (o := 1) (v := v) h2' (hv ▸ rfl)
  have H3 := Lib.hid h3
  have HV := Lib.hid hv
  clear h1 h2 h3 h4 hv hbox h2' hbx
  refine callsIn_of_wp Try.func56 rfl trivial ?_ rfl
  simp only [Try.ntmps56, List.size_toArray, List.length_cons, List.length_nil, Nat.reduceAdd, Nat.reduceSub, Array.replicate_succ, Array.replicate_zero, List.push_toArray, List.append_toArray, List.nil_append, List.cons_append]
  gi_wp2_with (refine ⟨trivial, ?_⟩; refine (callsIn_wide.2 CR.out).mono ?_; rintro e w1 ⟨rfl, rfl⟩)
  gi_loopw [3, 4] (fun v3 v4 wr => ∃ m, ItR J w W.heap.size T.lst v3 v4 wr m) (fun v3 v4 wr => least (ItR J w W.heap.size T.lst v3 v4 wr))
  case atStart => exact ⟨T.lst.length, [], [], p, Ft, T, HV.out.symm, hJ0, hW, Nat.le_refl _, H3.out, by simp, World.ownsRow_nil _ _ _ _, by simp [restS], by simp⟩
  case round =>
    have hx := least_spec hrel
    obtain ⟨mm, hmm⟩ : ∃ m, least (ItR J w W.heap.size T.lst u3 u4 wr) = m := ⟨_, rfl⟩
    rw [hmm] at hx
    clear hrel
    obtain ⟨pre, stk, px, Fx, Tx, rfl, hJp, hBw, hBs, hTx, hst, hrow, hLe, hm⟩ := hx
    have HM := Lib.hid hmm
    clear hmm
    obtain ⟨a3, cap3, rfl⟩ := ownsRow_form hrow
    cases Tx with
    | nil =>
      obtain rfl : px = none := hTx
      cases stk with
      | nil =>
        unfold pv pq
        gi_wp2
        go_end0
        refine ⟨⟨_, rfl⟩, ?_⟩
        simp only [Tr.lst, restS, List.append_nil] at hLe
        rw [hLe]; exact hJp
      | cons e stk =>
        unfold pv pq
        have hne : Tr.nil.lst ++ restS (e :: stk) ≠ [] := by simp [Tr.lst, restS]
        have HT : Hid (TreeW w Fx none .nil) := Lib.hid rfl
        gi_wp2
        gi_loopw [3, 4] (fun v3 v4 wr => ∃ m, InR J w W.heap.size T.lst pre v3 v4 wr m) (fun v3 v4 wr => least (InR J w W.heap.size T.lst pre v3 v4 wr))
        case atStart => exact ⟨_, e :: stk, none, Fx, .nil, rfl, hJp, hBw, hBs, HT.out, hst, hrow, hLe, hne, rfl⟩
        case round =>
          clear hJp hBw hBs hst hrow hLe hne
          have hx := least_spec hrel
          obtain ⟨m2, hm2⟩ : ∃ m, least (InR J w W.heap.size T.lst pre u3 u4 wr) = m := ⟨_, rfl⟩
          rw [hm2] at hx
          clear hrel
          have HM2 := Lib.hid hm2
          clear hm2
          obtain ⟨stk, px, Fx, Tx, rfl, hJp, hBw, hBs, hTx, hst, hrow, hLe, hne, rfl⟩ := hx
          obtain ⟨a3, cap3, rfl⟩ := ownsRow_form hrow
          have hlen : stk.length ≤ 1099511627776 := by have h5 := restS_length stk; have h6 := congrArg List.length hLe; simp only [List.length_append] at h6; omega
          cases Tx with
          | nil =>
            obtain rfl : px = none := hTx
            cases stk with
            | nil => exact (hne (by simp [Tr.lst, restS])).elim
            | cons e stk =>
              obtain ⟨x, n, k, r⟩ := e
              obtain ⟨ax, vx, pl, pr, Fr, hn, htr⟩ := hst _ List.mem_cons_self
              have HTR := Lib.hid htr
              have HST : Hid (∀ e ∈ stk, SEW w e) := Lib.hid (fun e he => hst e (List.mem_cons_of_mem _ he))
              obtain ⟨g, cap, hv⟩ := ownsRow_succ (show wr.ownsRow W.heap.size 56 1 (.slice a3 (stk.length + 1) cap3) (stk.length + 1) _ from hrow)
              cases hv
              have hrow2 := ownsRow_pop (show wr.ownsRow W.heap.size 56 1 (.slice (some ⟨g, 0, none⟩) (stk.length + 1) cap3) (stk.length + 1) (ptrS stk ++ [_]) by rw [← ptrS_cons]; exact hrow)
              have hc : wr.cell? ⟨g, stk.length, none⟩ = some (.pointer (some ⟨x, 0, none⟩)) := by
                have hq := hrow.cells (g := g) rfl _ _ (ptrS_top _ stk)
                simp only [Addr.add, Nat.zero_add] at hq
                split at hq
                · rename_i h0; rw [h0]; exact hq
                · exact hq
              have hcap := (ownsRow_cap hrow).2
              simp only [List.length_cons] at hcap
              have hcap2 : stk.length ≤ cap3 := by omega
              have hcap0 : ¬ cap3 = 0 := by omega
              have hn0 := hn
              unfold NodeW at hn0
              have hw1 : IntKind.i64.wrap (stk.length : Int) = (stk.length : Int) := by simp only [List.length_cons] at hlen; rw [IntKind.wrap_i64]; omega
              have HLE : Hid (T.lst = (pre ++ [(n, k)]) ++ (r.lst ++ restS stk)) := Lib.hid (by rw [hLe]; simp [Tr.lst, restS])
              have HLN : Hid (pre.length < T.lst.length) := Lib.hid (by rw [HLE.out]; simp)
              clear hst hn htr hLe hne hrow
              unfold pv pq
              gi_wp2
              have hnd := keepB hn0 hBw
              have j0 := cellAt (o := 0) hnd rfl
              have j1 := cellAt (o := 1) hnd rfl
              have HRW := Lib.hid hrow2
              have HBW := Lib.hid hBw
              have HBS := Lib.hid hBs
              obtain ⟨fn, tm, asg, bd, hy, hR⟩ := hY pre (n, k) wr.drew (hJ pre wr wr.drew none hJp ⟨rfl, rfl, rfl, Nat.le_refl _, fun _ _ _ => rfl⟩ (fun r e => by cases e)) HLN.out
              clear hnd hrow2 hc hw1 hcap hcap2 hcap0 hlen
              gi_region_with (refine hR.mono ?_; rintro e W3 ⟨rfl, hJ3, hk3⟩)
              all_goals
                have HB3 := Lib.hid ((HBW.out.drew).trans hk3.below)
                have j5 := cellAt (o := 5) (keepB hn0 HB3.out) rfl
                have HRW3 := Lib.hid (ownsRow_keepT (show wr.drew.ownsRow _ _ _ _ _ _ from HRW.out) hk3)
                have HBS3 : Hid (W.heap.size ≤ W3.heap.size) := Lib.hid (Nat.le_trans HBS.out hk3.below.size)
                gi_wp2
                have hR2 : ItR J w W.heap.size T.lst (.slice (some ⟨g, 0, none⟩) stk.length cap3) (pv pr) W3 (mm - 1) := ⟨pre ++ [(n, k)], stk, pr, Fr, r, rfl, hJ3, HB3.out, HBS3.out, HTR.out, HST.out, HRW3.out, HLE.out, by have := HLN.out; simp only [List.length_append, List.length_cons, List.length_nil]; omega⟩
                go_roundw
                case rel => exact ⟨_, hR2⟩
                case measure => exact Nat.lt_of_le_of_lt (least_le hR2) (Nat.lt_of_lt_of_eq (by have := HLN.out; omega) HM.out.symm)
          | node n k l r =>
            obtain ⟨x, pl, pr, Fl, Fr, rfl, _, hn, tl, tr, _⟩ := hTx
            have hn0 := hn
            unfold NodeW at hn0
            unfold pv pq
            have HTL := Lib.hid tl
            have HSE : Hid (SEW w (x, n, k, r)) := Lib.hid ⟨_, _, _, _, Fr, hn, tr⟩
            have HL := Lib.hid hLe
            have HST := Lib.hid hst
            clear hn tl tr hLe hst hne
            gi_wp2_with (gi_at_builtin; refine wpListIn_append_own _ rfl _ _ 86 rfl W.heap.size 56 i0 (.pointer none) 1 8 Try.underlying86 hi hz0 hz1 hz2 rfl (by decide) _ _ _ rfl (hrow.alloc _) ⟨wr.heap.size, 0, none⟩ 1 1 [.pointer (some ⟨x, 0, none⟩)] rfl rfl (cell_one_new _ _ _) (by simp [Value.oneCell']) (by unfold maxLen; omega) (by omega) (by simp; omega) ?_; intro v' w1 hown' hgrow _; obtain ⟨a', cap', rfl⟩ := ownsRow_form hown'; have hJ1 := AbidesT.push hJ hJp hrow hgrow; have hB1 := below_push hBw hBw.size hW.size hrow hgrow; have j4 := cellAt (o := 4) (keepB hn0 hB1) rfl)
            have hrow' : w1.ownsRow W.heap.size 56 1 (.slice a' (stk.length + 1) cap') ((x, n, k, r) :: stk).length (ptrS ((x, n, k, r) :: stk)) := by rw [ptrS_cons]; exact hown'
            have hR : InR J w W.heap.size T.lst pre (.slice a' (stk.length + 1) cap') (pv pl) w1 l.cnt := ⟨(x, n, k, r) :: stk, pl, Fl, l, rfl, hJ1, hB1, by have := hgrow.size; rw [alloc_size] at this; omega, HTL.out, by
              intro e he
              rcases List.mem_cons.1 he with rfl | he
              · exact HSE.out
              · exact HST.out e he, hrow', by rw [HL.out]; simp [Tr.lst, restS], by simp [restS], rfl⟩
            go_roundw
            case rel => first | exact ⟨_, hR⟩ | exact ⟨_, _, _, _, _, _, _, _, _, _, _, _, ⟨_, hR⟩, rfl⟩
            case measure => exact Nat.lt_of_le_of_lt (least_le hR) (Nat.lt_of_lt_of_eq (by simp only [Tr.cnt]; omega) HM2.out.symm)
    | node n k l r =>
      have hyp : ∃ x, px = some x := by obtain ⟨x, _, _, _, _, e, _⟩ := hTx; exact ⟨x, e⟩
      obtain ⟨x, rfl⟩ := hyp
      have HT := Lib.hid hTx
      clear hTx
      have hne : (Tr.node n k l r).lst ++ restS stk ≠ [] := by simp [Tr.lst]
      unfold pv pq
      gi_wp2
      gi_loopw [3, 4] (fun v3 v4 wr => ∃ m, InR J w W.heap.size T.lst pre v3 v4 wr m) (fun v3 v4 wr => least (InR J w W.heap.size T.lst pre v3 v4 wr))
      case atStart => exact ⟨_, stk, some x, Fx, .node n k l r, rfl, hJp, hBw, hBs, HT.out, hst, hrow, hLe, hne, rfl⟩
      case round =>
        clear hJp hBw hBs hst hrow hLe hne
        have hx := least_spec hrel
        obtain ⟨m2, hm2⟩ : ∃ m, least (InR J w W.heap.size T.lst pre u3 u4 wr) = m := ⟨_, rfl⟩
        rw [hm2] at hx
        clear hrel
        have HM2 := Lib.hid hm2
        clear hm2
        obtain ⟨stk, px, Fx, Tx, rfl, hJp, hBw, hBs, hTx, hst, hrow, hLe, hne, rfl⟩ := hx
        obtain ⟨a3, cap3, rfl⟩ := ownsRow_form hrow
        have hlen : stk.length ≤ 1099511627776 := by have h5 := restS_length stk; have h6 := congrArg List.length hLe; simp only [List.length_append] at h6; omega
        cases Tx with
        | nil =>
          obtain rfl : px = none := hTx
          cases stk with
          | nil => exact (hne (by simp [Tr.lst, restS])).elim
          | cons e stk =>
            obtain ⟨x, n, k, r⟩ := e
            obtain ⟨ax, vx, pl, pr, Fr, hn, htr⟩ := hst _ List.mem_cons_self
            have HTR := Lib.hid htr
            have HST : Hid (∀ e ∈ stk, SEW w e) := Lib.hid (fun e he => hst e (List.mem_cons_of_mem _ he))
            obtain ⟨g, cap, hv⟩ := ownsRow_succ (show wr.ownsRow W.heap.size 56 1 (.slice a3 (stk.length + 1) cap3) (stk.length + 1) _ from hrow)
            cases hv
            have hrow2 := ownsRow_pop (show wr.ownsRow W.heap.size 56 1 (.slice (some ⟨g, 0, none⟩) (stk.length + 1) cap3) (stk.length + 1) (ptrS stk ++ [_]) by rw [← ptrS_cons]; exact hrow)
            have hc : wr.cell? ⟨g, stk.length, none⟩ = some (.pointer (some ⟨x, 0, none⟩)) := by
              have hq := hrow.cells (g := g) rfl _ _ (ptrS_top _ stk)
              simp only [Addr.add, Nat.zero_add] at hq
              split at hq
              · rename_i h0; rw [h0]; exact hq
              · exact hq
            have hcap := (ownsRow_cap hrow).2
            simp only [List.length_cons] at hcap
            have hcap2 : stk.length ≤ cap3 := by omega
            have hcap0 : ¬ cap3 = 0 := by omega
            have hn0 := hn
            unfold NodeW at hn0
            have hw1 : IntKind.i64.wrap (stk.length : Int) = (stk.length : Int) := by simp only [List.length_cons] at hlen; rw [IntKind.wrap_i64]; omega
            have HLE : Hid (T.lst = (pre ++ [(n, k)]) ++ (r.lst ++ restS stk)) := Lib.hid (by rw [hLe]; simp [Tr.lst, restS])
            have HLN : Hid (pre.length < T.lst.length) := Lib.hid (by rw [HLE.out]; simp)
            clear hst hn htr hLe hne hrow
            unfold pv pq
            gi_wp2
            have hnd := keepB hn0 hBw
            have j0 := cellAt (o := 0) hnd rfl
            have j1 := cellAt (o := 1) hnd rfl
            have HRW := Lib.hid hrow2
            have HBW := Lib.hid hBw
            have HBS := Lib.hid hBs
            obtain ⟨fn, tm, asg, bd, hy, hR⟩ := hY pre (n, k) wr.drew (hJ pre wr wr.drew none hJp ⟨rfl, rfl, rfl, Nat.le_refl _, fun _ _ _ => rfl⟩ (fun r e => by cases e)) HLN.out
            clear hnd hrow2 hc hw1 hcap hcap2 hcap0 hlen
            gi_region_with (refine hR.mono ?_; rintro e W3 ⟨rfl, hJ3, hk3⟩)
            all_goals
              have HB3 := Lib.hid ((HBW.out.drew).trans hk3.below)
              have j5 := cellAt (o := 5) (keepB hn0 HB3.out) rfl
              have HRW3 := Lib.hid (ownsRow_keepT (show wr.drew.ownsRow _ _ _ _ _ _ from HRW.out) hk3)
              have HBS3 : Hid (W.heap.size ≤ W3.heap.size) := Lib.hid (Nat.le_trans HBS.out hk3.below.size)
              gi_wp2
              have hR2 : ItR J w W.heap.size T.lst (.slice (some ⟨g, 0, none⟩) stk.length cap3) (pv pr) W3 (mm - 1) := ⟨pre ++ [(n, k)], stk, pr, Fr, r, rfl, hJ3, HB3.out, HBS3.out, HTR.out, HST.out, HRW3.out, HLE.out, by have := HLN.out; simp only [List.length_append, List.length_cons, List.length_nil]; omega⟩
              go_roundw
              case rel => exact ⟨_, hR2⟩
              case measure => exact Nat.lt_of_le_of_lt (least_le hR2) (Nat.lt_of_lt_of_eq (by have := HLN.out; omega) HM.out.symm)
        | node n k l r =>
          obtain ⟨x, pl, pr, Fl, Fr, rfl, _, hn, tl, tr, _⟩ := hTx
          have hn0 := hn
          unfold NodeW at hn0
          unfold pv pq
          have HTL := Lib.hid tl
          have HSE : Hid (SEW w (x, n, k, r)) := Lib.hid ⟨_, _, _, _, Fr, hn, tr⟩
          have HL := Lib.hid hLe
          have HST := Lib.hid hst
          clear hn tl tr hLe hst hne
          gi_wp2_with (gi_at_builtin; refine wpListIn_append_own _ rfl _ _ 86 rfl W.heap.size 56 i0 (.pointer none) 1 8 Try.underlying86 hi hz0 hz1 hz2 rfl (by decide) _ _ _ rfl (hrow.alloc _) ⟨wr.heap.size, 0, none⟩ 1 1 [.pointer (some ⟨x, 0, none⟩)] rfl rfl (cell_one_new _ _ _) (by simp [Value.oneCell']) (by unfold maxLen; omega) (by omega) (by simp; omega) ?_; intro v' w1 hown' hgrow _; obtain ⟨a', cap', rfl⟩ := ownsRow_form hown'; have hJ1 := AbidesT.push hJ hJp hrow hgrow; have hB1 := below_push hBw hBw.size hW.size hrow hgrow; have j4 := cellAt (o := 4) (keepB hn0 hB1) rfl)
          have hrow' : w1.ownsRow W.heap.size 56 1 (.slice a' (stk.length + 1) cap') ((x, n, k, r) :: stk).length (ptrS ((x, n, k, r) :: stk)) := by rw [ptrS_cons]; exact hown'
          have hR : InR J w W.heap.size T.lst pre (.slice a' (stk.length + 1) cap') (pv pl) w1 l.cnt := ⟨(x, n, k, r) :: stk, pl, Fl, l, rfl, hJ1, hB1, by have := hgrow.size; rw [alloc_size] at this; omega, HTL.out, by
            intro e he
            rcases List.mem_cons.1 he with rfl | he
            · exact HSE.out
            · exact HST.out e he, hrow', by rw [HL.out]; simp [Tr.lst, restS], by simp [restS], rfl⟩
          go_roundw
          case rel => first | exact ⟨_, hR⟩ | exact ⟨_, _, _, _, _, _, _, _, _, _, _, _, ⟨_, hR⟩, rfl⟩
          case measure => exact Nat.lt_of_le_of_lt (least_le hR) (Nat.lt_of_lt_of_eq (by simp only [Tr.cnt]; omega) HM2.out.symm)
end
end Go.Proofs.Ytjcbikkihijkiaa
