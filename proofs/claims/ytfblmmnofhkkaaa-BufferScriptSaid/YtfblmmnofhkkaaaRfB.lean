/- The reference's buffer: what reads it. -/
import Derived.Test.YtfblmmnofhkkaaaRfA
namespace Go.Proofs.Ytfblmmnofhkkaaa
open Go.RowKit
theorem find_skip {t : Int} {P : List Pt} {k : Nat} (hk : k ≤ P.length) (h : ∀ j (hj : j < P.length), j < k → P[j].1 ≠ t) : atP t P = atP t (P.drop k) := by
  unfold atP
  conv => lhs; rw [← List.take_append_drop k P]
  rw [List.find?_append, find_none (fun q hq => by
    obtain ⟨j, hj, rfl⟩ := List.mem_take_iff_getElem.1 hq
    exact h j (by omega) (by omega))]
  rfl
section
variable {w : World} {G : Nat → Prop} {r : Nat} {P : List Pt} {fl : Int}

set_option maxRecDepth 100000 in
theorem rfloor_any (h : RbO r P fl w G) (hl : P.length ≤ 65536) : Calls Try.prog 27 #[.pointer (some ⟨r, 0, none⟩)] w fun e w' => e = .returned (.int .i64 fl) ∧ Below w.heap.size w w' := by
  obtain ⟨A, cap, hc, hrow, hcap, hcm⟩ := h.open
  obtain ⟨N, hN⟩ : ∃ N, P.length = N := ⟨_, rfl⟩
  have HN := Lib.hid hN
  have HC := Lib.hid hc
  have HRow := Lib.hid hrow
  rw [hN] at hc hl hcap
  have HL := Lib.hid hl
  have k0 := cellAt (o := 0) (v := .slice A N cap) hc rfl
  have k1 := cellAt (o := 1) (v := .int .i64 fl) hc rfl
  clear hc hrow hN h hl
  go_enter Try.func27, Try.ntmps27
  go_wp2_with fail
  go_ret
  exact ⟨rfl, Below.refl _ _⟩
set_option maxHeartbeats 4000000 in
set_option maxRecDepth 100000 in
theorem rat_any (t : Int) (h : RbO r P fl w G) (hl : P.length ≤ 65536) : Calls Try.prog 25 #[.pointer (some ⟨r, 0, none⟩), .int .i64 t] w fun e w' => e = .returned (.tuple #[.int .i64 (atP t P).1, .bool (atP t P).2]) ∧ Below w.heap.size w w' := by
  obtain ⟨A, cap, hc, hrow, hcap, hcm⟩ := h.open
  obtain ⟨N, hN⟩ : ∃ N, P.length = N := ⟨_, rfl⟩
  have HN := Lib.hid hN
  have HC := Lib.hid hc
  have HRow := Lib.hid hrow
  rw [hN] at hc hl hcap
  have HL := Lib.hid hl
  have k0 := cellAt (o := 0) (v := .slice A N cap) hc rfl
  have k1 := cellAt (o := 1) (v := .int .i64 fl) hc rfl
  clear hc hrow hN h hl
  obtain ⟨an, ab, hA⟩ : ∃ an ab, atP t P = (an, ab) := ⟨_, _, rfl⟩
  rw [hA]
  have HAt := Lib.hid hA
  clear hA
  go_enter Try.func25, Try.ntmps25
  go_wp2_with fail
  go_loopw [6] (fun v wr => ∃ k : Nat, v = .int .i64 (k : Int) ∧ k ≤ N ∧ (∀ j (hj : j < P.length), j < k → P[j].1 ≠ t) ∧ Hid (Below w.heap.size w wr)) (fun v _ => N - (intOf v).toNat)
  case atStart => exact ⟨0, rfl, Nat.zero_le _, fun _ _ h => absurd h (by omega), Lib.hid (Below.refl _ _)⟩
  case round =>
    clear k0 k1
    obtain ⟨k, rfl, hk, hlt, HB⟩ := hrel
    have k0 := cellAt (o := 0) (v := .slice A N cap) (keepB HC.out HB.out) (by rw [HN.out]; rfl)
    have HLt := Lib.hid hlt
    clear hlt
    by_cases h0 : k < N
    · have hkP : k < P.length := by rw [HN.out]; exact h0
      obtain ⟨g, p, rfl, hp, hg, hpt⟩ := or_pt (n := P.length) (by exact HRow.out) HB.out hkP rfl
      have hpe : P[k] = p := by rw [List.getElem?_eq_getElem hkP] at hp; exact Option.some.inj hp
      obtain ⟨p0, p1, p2⟩ := hpt
      obtain ⟨⟨pt, pn⟩, hpp⟩ : ∃ q, p = q := ⟨_, rfl⟩
      subst hpp
      simp only at p0 p1
      have hw : IntKind.i64.wrap ((k : Int) + 1) = ((k + 1 : Nat) : Int) := by have := HL.out; rw [IntKind.wrap_i64]; omega
      have hkN : (k : Int) < (N : Int) := by omega
      by_cases hpl : pt = t
      · have hres : atP t P = (pn, true) := by
          rw [find_skip (by omega) HLt.out, List.drop_eq_getElem_cons hkP, hpe]
          unfold atP
          rw [List.find?_cons_of_pos (by simpa using hpl)]
        rw [HAt.out] at hres
        obtain ⟨rfl, rfl⟩ : an = pn ∧ ab = true := by simpa using hres
        subst hpl
        clear hres hp hpe hkP HAt
        go_wp2_with fail
        exact bodyPost_ret (v := .tuple #[.int .i64 an, .bool true]) (by simp only [results, Try.results25]; go_simp) rfl ⟨rfl, HB.out⟩
      · have HPE : Hid (∀ h : k < P.length, P[k] = (pt, pn)) := Lib.hid (fun _ => hpe)
        have hpl2 : (pt == t) = false := by simpa using hpl
        clear hp hpe hkP
        go_wp2_with fail
        go_roundw
        case rel =>
          refine ⟨k + 1, rfl, by omega, fun j hj hjk => ?_, HB⟩
          rcases Nat.lt_or_eq_of_le (Nat.le_of_lt_succ hjk) with h | rfl
          · exact HLt.out j hj h
          · rw [HPE.out hj]; exact hpl
        case measure => simp [intOf]; omega
    · have hres : atP t P = (0, false) := by
        have hkl : k = P.length := by rw [HN.out]; omega
        rw [find_skip (by omega) HLt.out, hkl, List.drop_length]; rfl
      rw [HAt.out] at hres
      obtain ⟨rfl, rfl⟩ : an = 0 ∧ ab = false := by simpa using hres
      clear HAt
      have hkN : ¬ (k : Int) < (N : Int) := by omega
      clear hres h0
      go_wp2_with fail
      exact bodyPost_ret (v := .tuple #[.int .i64 0, .bool false]) (by simp only [results, Try.results25]; go_simp) rfl ⟨rfl, HB.out⟩
set_option maxHeartbeats 4000000 in
set_option maxRecDepth 100000 in
theorem rrange_any (t u : Int) (h : RbO r P fl w G) (hl : P.length ≤ 65536) : Calls Try.prog 29 #[.pointer (some ⟨r, 0, none⟩), .int .i64 t, .int .i64 u] w fun e w' => ∃ v, e = .returned v ∧ w'.ownsRow w.heap.size 45 3 v (rangeP t u P).length (pcs (rangeP t u P)) ∧ Below w.heap.size w w' := by
  obtain ⟨A, cap, hc, hrow, hcap, hcm⟩ := h.open
  obtain ⟨N, hN⟩ : ∃ N, P.length = N := ⟨_, rfl⟩
  have HN := Lib.hid hN
  have HC := Lib.hid hc
  have HRow := Lib.hid hrow
  rw [hN] at hc hl hcap
  have HL := Lib.hid hl
  have k0 := cellAt (o := 0) (v := .slice A N cap) hc rfl
  have k1 := cellAt (o := 1) (v := .int .i64 fl) hc rfl
  clear hc hrow hN h hl
  obtain ⟨R, hR⟩ : ∃ R, rangeP t u P = R := ⟨_, rfl⟩
  rw [hR]
  have HR := Lib.hid hR
  clear hR
  go_enter Try.func29, Try.ntmps29
  go_wp2_with fail
  go_loopw [7, 8] (fun o v wr => ∃ k : Nat, v = .int .i64 (k : Int) ∧ k ≤ N ∧ Hid (RowN w.heap.size o (rangeP t u (P.take k)) wr) ∧ Hid (Below w.heap.size w wr)) (fun _ v _ => N - (intOf v).toNat)
  case atStart => exact ⟨0, rfl, Nat.zero_le _, Lib.hid (World.ownsRow_nil _ _ _ _), Lib.hid (Below.refl _ _)⟩
  case round =>
    clear k0 k1
    obtain ⟨k, rfl, hk, HO, HB⟩ := hrel
    have k0 := cellAt (o := 0) (v := .slice A N cap) (keepB HC.out HB.out) (by rw [HN.out]; rfl)
    by_cases h0 : k < N
    · have hkP : k < P.length := by rw [HN.out]; exact h0
      obtain ⟨g, p, rfl, hp, hg, hpt⟩ := or_pt (n := P.length) (by exact HRow.out) HB.out hkP rfl
      have hpe : P[k] = p := by rw [List.getElem?_eq_getElem hkP] at hp; exact Option.some.inj hp
      obtain ⟨p0, p1, p2⟩ := hpt
      obtain ⟨⟨pt, pn⟩, hpp⟩ : ∃ q, p = q := ⟨_, rfl⟩
      subst hpp
      simp only at p0 p1
      have hw : IntKind.i64.wrap ((k : Int) + 1) = ((k + 1 : Nat) : Int) := by have := HL.out; rw [IntKind.wrap_i64]; omega
      have hkN : (k : Int) < (N : Int) := by omega
      have htk : P.take (k + 1) = P.take k ++ [(pt, pn)] := by rw [← hpe]; exact (List.take_append_getElem hkP).symm
      obtain ⟨L, hL⟩ : ∃ L, rangeP t u (P.take k) = L := ⟨_, rfl⟩
      have hLl : L.length ≤ 65536 := by rw [← hL]; have := List.length_filter_le (fun q : Pt => decide (t < q.1) && decide (q.1 ≤ u)) (P.take k); have h2 : (P.take k).length ≤ k := by rw [List.length_take]; omega
                                        have := HL.out; unfold rangeP; omega
      rw [hL] at HO
      obtain ⟨OA, oc, rfl⟩ := or_form HO.out
      have HTK : Hid (rangeP t u (P.take (k + 1)) = L ++ rangeP t u [(pt, pn)]) := Lib.hid (by rw [htk, ← hL]; unfold rangeP; rw [List.filter_append])
      clear hp hpe hkP htk hL
      by_cases h1 : t < pt
      · by_cases h2 : pt ≤ u
        · have hsp : rangeP t u [(pt, pn)] = [(pt, pn)] := by simp [rangeP, h1, h2]
          have HS2 := Lib.hid hsp
          have H2 := Lib.hid HO.out
          clear hsp
          obtain ⟨ln, hln⟩ : ∃ ln, L.length = ln := ⟨_, rfl⟩
          rw [hln] at hLl
          have HLN := Lib.hid hln
          rw [hln]
          clear hln
          have hnb := newB wr (.cells #[.int .i64 pt, .int .i64 pn, .bool false] 45)
          have HO1 : Hid (RowN w.heap.size (.slice OA ln oc) L (wr.alloc (.cells #[.int .i64 pt, .int .i64 pn, .bool false] 45))) := Lib.hid (by rw [← HLN.out]; exact RowN.stab _ _ _ _ _ H2.out (below_alloc (Below.refl _ _) _))
          have HB1 := Lib.hid (below_alloc HB.out (.cells #[.int .i64 pt, .int .i64 pn, .bool false] 45))
          have HRd : Hid (Reads (wr.alloc (.cells #[.int .i64 pt, .int .i64 pn, .bool false] 45)) (wr.alloc (.cells #[.int .i64 pt, .int .i64 pn, .bool false] 45)).heap.size 3 (some ⟨wr.heap.size, 0, none⟩) [(pt, pn)].length (pcs [(pt, pn)])) := Lib.hid ⟨rfl, fun _ => ⟨_, rfl, only_lt hnb, World.news_of_block hnb⟩⟩
          clear hnb
          go_wp2_with (at_builtin; go_loud (refine wpL_pts rfl _ _ rfl w.heap.size _ L rfl HO1.out _ _ _ [(pt, pn)] rfl rfl HRd.out ?o3 HB1.out.size ?o5))
          case o3 => rw [HLN.out]; simp; omega
          case o5 =>
            intro v' w1 hO hg hv
            have HB2 := Lib.hid (HB1.out.trans (rowN_grown HO1.out (Below.refl _ _) hg HB1.out.size))
            have HO2 : Hid (RowN w.heap.size v' (L ++ [(pt, pn)]) w1) := Lib.hid (by unfold RowN; rw [List.length_append]; exact hO)
            obtain ⟨OA2, oc2, rfl⟩ := or_form hO
            clear hO hg hv HRd HO1 HB1
            go_wp2_with fail
            go_roundw
            case rel => exact ⟨k + 1, rfl, by omega, Lib.hid (by rw [HTK.out, HS2.out]; exact HO2.out), HB2⟩
            case measure => simp [intOf]; omega
        · have hsp : rangeP t u [(pt, pn)] = [] := by simp [rangeP, h2]
          have HS2 := Lib.hid hsp
          clear hsp
          go_wp2_with fail
          go_roundw
          case rel => exact ⟨k + 1, rfl, by omega, Lib.hid (by rw [HTK.out, HS2.out, List.append_nil]; exact HO.out), HB⟩
          case measure => simp [intOf]; omega
      · have hsp : rangeP t u [(pt, pn)] = [] := by simp [rangeP, h1]
        have HS2 := Lib.hid hsp
        clear hsp
        go_wp2_with fail
        go_roundw
        case rel => exact ⟨k + 1, rfl, by omega, Lib.hid (by rw [HTK.out, HS2.out, List.append_nil]; exact HO.out), HB⟩
        case measure => simp [intOf]; omega
    · have hkN : ¬ (k : Int) < (N : Int) := by omega
      have htk : P.take k = P := List.take_of_length_le (by rw [HN.out]; omega)
      rw [htk, HR.out] at HO
      obtain ⟨OA, oc, hoa⟩ := or_form HO.out
      subst hoa
      clear h0 htk
      go_wp2_with fail
      go_ret
      exact ⟨_, rfl, HO.out, HB.out⟩
set_option maxHeartbeats 4000000 in
set_option maxRecDepth 100000 in
theorem rtrim_any (t : Int) {x y f : Int} {R : List Pt} (he : trimE t P fl = (x, y)) (hp : trimP t P fl = R) (hf : trimF t fl = f) (h : RbO r P fl w G) (hl : P.length ≤ 65536) : Calls Try.prog 23 #[.pointer (some ⟨r, 0, none⟩), .int .i64 t] w fun e w' => e = .returned (.tuple #[.int .i64 x, .int .i64 y]) ∧ Goes (RbO r R f) G w w' := by
  have HH := Lib.hid h
  have HE := Lib.hid he
  have HP := Lib.hid hp
  have HFf := Lib.hid hf
  clear he hp hf
  obtain ⟨A, cap, hc, hrow, hcap, hcm⟩ := h.open
  obtain ⟨N, hN⟩ : ∃ N, P.length = N := ⟨_, rfl⟩
  have HN := Lib.hid hN
  have HC := Lib.hid hc
  have HRow := Lib.hid hrow
  rw [hN] at hc hl hcap
  have HL := Lib.hid hl
  have k0 := cellAt (o := 0) (v := .slice A N cap) hc rfl
  have k1 := cellAt (o := 1) (v := .int .i64 fl) hc rfl
  clear hc hrow hN h hl
  by_cases h1 : t < fl
  · have E1 := HE.out
    have E2 := HP.out
    have E3 := HFf.out
    unfold trimE at E1
    unfold trimP at E2
    unfold trimF at E3
    rw [if_pos h1] at E1 E2 E3
    obtain ⟨rfl, rfl⟩ : (0 : Int) = x ∧ (2 : Int) = y := by cases E1; exact ⟨rfl, rfl⟩
    subst E2 E3
    clear E1
    clear HE HP HFf
    go_enter Try.func23, Try.ntmps23
    go_wp2_with fail
    exact bodyPost_ret (v := .tuple #[.int .i64 0, .int .i64 2]) (by simp only [results, Try.results23]; go_simp) rfl ⟨rfl, Goes.below (RbO.obj _ _ _) HH.out (Below.refl _ _)⟩
  have E1 := HE.out
  have E2 := HP.out
  have E3 := HFf.out
  unfold trimE at E1
  unfold trimP at E2
  unfold trimF at E3
  rw [if_neg h1] at E1 E2 E3
  obtain ⟨e1, rfl⟩ : ((P.length - (aboveP t P).length : Nat) : Int) = x ∧ (0 : Int) = y := by cases E1; exact ⟨rfl, rfl⟩
  subst E3
  rw [E2, HN.out] at e1
  have hRl : R.length ≤ N := by rw [← E2, ← HN.out]; exact above_len _ _
  have HR := Lib.hid E2
  have HX := Lib.hid e1
  have HRl := Lib.hid hRl
  have H0r : Hid (G r ∧ r < w.heap.size) := Lib.hid (by obtain ⟨h1, v, h2, _⟩ := HH.out; exact ⟨h1, only_lt h2⟩)
  have f1 := freeAt 1 HC.out
  have HO1 := Lib.hid (Only.set w r 1 (.int .i64 t))
  have HC1 : Hid ((w.setCell ⟨r, 1, none⟩ (.int .i64 t)).heap[r]? = some (.cells #[.slice A N cap, .int .i64 t] 56 (0, 0))) := Lib.hid (by rw [setCell_get HC.out, HN.out]; rfl)
  have HRow1 : Hid ((w.setCell ⟨r, 1, none⟩ (.int .i64 t)).ownsRow 0 45 3 (.slice A N cap) N (pcs P)) := Lib.hid (by
    obtain ⟨_, v, h2, h3, h4⟩ := HH.out
    have e := h2.symm.trans HC.out
    simp only [Option.some.injEq, Obj.cells.injEq, Array.mk.injEq, List.cons.injEq] at e
    obtain ⟨⟨e, _⟩, _⟩ := e
    rw [← HN.out, ← e]
    exact or_keep h3 (fun g hg => HO1.out.block g (h3.lt g hg).2 (h4 g hg).2))
  clear E1 E2 e1 hRl HE HP HFf HRow HC
  go_enter Try.func23, Try.ntmps23
  go_wp2_with fail
  clear k0 k1 f1
  obtain ⟨w1, hw1⟩ : ∃ w1, w.setCell ⟨r, 1, none⟩ (.int .i64 t) = w1 := ⟨_, rfl⟩
  rw [hw1] at HO1 HC1 HRow1 ⊢
  have HW1 := Lib.hid hw1
  clear hw1
  go_loopw [6, 7] (fun o v wr => ∃ k : Nat, v = .int .i64 (k : Int) ∧ k ≤ N ∧ Hid (RowN w1.heap.size o (aboveP t (P.take k)) wr) ∧ Hid (Below w1.heap.size w1 wr)) (fun _ v _ => N - (intOf v).toNat)
  case atStart => exact ⟨0, rfl, Nat.zero_le _, Lib.hid (World.ownsRow_nil _ _ _ _), Lib.hid (Below.refl _ _)⟩
  case round =>
    obtain ⟨k, rfl, hk, HO, HB⟩ := hrel
    have k0 := cellAt (o := 0) (v := .slice A N cap) (keepB HC1.out HB.out) rfl
    by_cases h0 : k < N
    · have hkP : k < P.length := by rw [HN.out]; exact h0
      obtain ⟨g, p, rfl, hp, hg, hpt⟩ := or_pt (n := N) (by exact HRow1.out) HB.out h0 HN.out
      have hpe : P[k] = p := by rw [List.getElem?_eq_getElem hkP] at hp; exact Option.some.inj hp
      obtain ⟨p0, p1, p2⟩ := hpt
      obtain ⟨⟨pt, pn⟩, hpp⟩ : ∃ q, p = q := ⟨_, rfl⟩
      subst hpp
      simp only at p0 p1
      have hw : IntKind.i64.wrap ((k : Int) + 1) = ((k + 1 : Nat) : Int) := by have := HL.out; rw [IntKind.wrap_i64]; omega
      have hkN : (k : Int) < (N : Int) := by omega
      have htk : P.take (k + 1) = P.take k ++ [(pt, pn)] := by rw [← hpe]; exact (List.take_append_getElem hkP).symm
      obtain ⟨L, hL⟩ : ∃ L, aboveP t (P.take k) = L := ⟨_, rfl⟩
      have hLl : L.length ≤ 65536 := by rw [← hL]; have := above_len t (P.take k); have h2 : (P.take k).length ≤ k := by rw [List.length_take]; omega
                                        have := HL.out; omega
      rw [hL] at HO
      obtain ⟨OA, oc, rfl⟩ := or_form HO.out
      have HTK : Hid (aboveP t (P.take (k + 1)) = L ++ aboveP t [(pt, pn)]) := Lib.hid (by rw [htk, ← hL]; unfold aboveP; rw [List.filter_append])
      clear hp hpe hkP htk hL
      by_cases h2 : t < pt
      · have hsp : aboveP t [(pt, pn)] = [(pt, pn)] := by simp [aboveP, h2]
        have HS2 := Lib.hid hsp
        have H2 := Lib.hid HO.out
        clear hsp
        obtain ⟨ln, hln⟩ : ∃ ln, L.length = ln := ⟨_, rfl⟩
        rw [hln] at hLl
        have HLN := Lib.hid hln
        rw [hln]
        clear hln
        have hnb := newB wr (.cells #[.int .i64 pt, .int .i64 pn, .bool false] 45)
        have HO2 : Hid (RowN w1.heap.size (.slice OA ln oc) L (wr.alloc (.cells #[.int .i64 pt, .int .i64 pn, .bool false] 45))) := Lib.hid (by rw [← HLN.out]; exact RowN.stab _ _ _ _ _ H2.out (below_alloc (Below.refl _ _) _))
        have HB1 := Lib.hid (below_alloc HB.out (.cells #[.int .i64 pt, .int .i64 pn, .bool false] 45))
        have HRd : Hid (Reads (wr.alloc (.cells #[.int .i64 pt, .int .i64 pn, .bool false] 45)) (wr.alloc (.cells #[.int .i64 pt, .int .i64 pn, .bool false] 45)).heap.size 3 (some ⟨wr.heap.size, 0, none⟩) [(pt, pn)].length (pcs [(pt, pn)])) := Lib.hid ⟨rfl, fun _ => ⟨_, rfl, only_lt hnb, World.news_of_block hnb⟩⟩
        clear hnb
        go_wp2_with (at_builtin; go_loud (refine wpL_pts rfl _ _ rfl w1.heap.size _ L rfl HO2.out _ _ _ [(pt, pn)] rfl rfl HRd.out ?o3 HB1.out.size ?o5))
        case o3 => rw [HLN.out]; simp; omega
        case o5 =>
          intro v' w2 hO hg hv
          have HB2 := Lib.hid (HB1.out.trans (rowN_grown HO2.out (Below.refl _ _) hg HB1.out.size))
          have HO3 : Hid (RowN w1.heap.size v' (L ++ [(pt, pn)]) w2) := Lib.hid (by unfold RowN; rw [List.length_append]; exact hO)
          obtain ⟨OA2, oc2, rfl⟩ := or_form hO
          clear hO hg hv HRd HO2 HB1
          go_wp2_with fail
          go_roundw
          case rel => exact ⟨k + 1, rfl, by omega, Lib.hid (by rw [HTK.out, HS2.out]; exact HO3.out), HB2⟩
          case measure => simp [intOf]; omega
      · have hsp : aboveP t [(pt, pn)] = [] := by simp [aboveP, h2]
        have HS2 := Lib.hid hsp
        clear hsp
        go_wp2_with fail
        go_roundw
        case rel => exact ⟨k + 1, rfl, by omega, Lib.hid (by rw [HTK.out, HS2.out, List.append_nil]; exact HO.out), HB⟩
        case measure => simp [intOf]; omega
    · have hkN : ¬ (k : Int) < (N : Int) := by omega
      have htk : P.take k = P := List.take_of_length_le (by rw [HN.out]; omega)
      rw [htk, HR.out] at HO
      obtain ⟨rn, hrn⟩ : ∃ rn, R.length = rn := ⟨_, rfl⟩
      have HRn := Lib.hid hrn
      obtain ⟨OA, oc, hoa⟩ := or_form HO.out
      rw [hrn] at hoa
      subst hoa
      have hx := HX.out
      have hrl := HRl.out
      rw [hrn] at hx hrl
      have hL := HL.out
      have hs : IntKind.i64.wrap ((N : Int) - (rn : Int)) = x := by rw [IntKind.wrap_i64]; omega
      have g9 := keepB HC1.out HB.out
      have f0 := freeAt 0 g9
      have HO4 := Lib.hid (Only.set wr r 0 (.slice OA rn oc))
      have HG4 : Hid ((wr.setCell ⟨r, 0, none⟩ (.slice OA rn oc)).heap[r]? = some (.cells #[.slice OA rn oc, .int .i64 t] 56 (0, 0))) := Lib.hid (by rw [setCell_get g9]; rfl)
      have hr1 : r < w1.heap.size := only_lt HC1.out
      have HR4 := Lib.hid (or_keep HO.out (fun g hg => HO4.out.block g (World.ownsRow.lt HO.out g hg).2 (fun e => by have := (World.ownsRow.lt HO.out g hg).1; omega)))
      clear hx hrl g9 h0 htk hrn hr1
      go_wp2_with fail
      refine bodyPost_ret (v := .tuple #[.int .i64 x, .int .i64 0]) (by simp only [results, Try.results23]; go_simp) rfl ⟨rfl, ?_⟩
      refine (?_ : Goes (RbO r R t) G w _)
      have hb9 : Below w1.heap.size w1 wr := HB.out
      refine ⟨fun i => (G i ∨ w.heap.size ≤ i) ∧ i < (wr.setCell ⟨r, 0, none⟩ (.slice OA rn oc)).heap.size, ⟨⟨.inl H0r.out.1, only_lt HG4.out⟩, _, HG4.out, by have := or_base HR4.out (Nat.zero_le _); rw [HRn.out] at this ⊢; exact this, fun k hk => ?_⟩, fun i hi => hi, ?_⟩
      · have h1 := HR4.out
        rw [HRn.out] at h1
        obtain ⟨h1, h2⟩ := World.ownsRow.lt h1 k hk
        have h3 := HO1.out.size
        refine ⟨⟨.inr (by omega), h2⟩, fun e => ?_⟩
        have := H0r.out.2
        omega
      · refine (HO1.out.mono (fun i _ e => e ▸ H0r.out.1)).then ((Only.of_below (S := fun i => i = r) hb9).then HO4.out (fun _ _ e => e)) (fun i _ e => e ▸ H0r.out.1)
set_option maxHeartbeats 4000000 in
set_option maxRecDepth 100000 in
theorem rends_any {x y : Int} (he : endsP P = (x, y)) (h : RbO r P fl w G) (hl : P.length ≤ 65536) : Calls Try.prog 28 #[.pointer (some ⟨r, 0, none⟩)] w fun e w' => e = .returned (.tuple #[.int .i64 x, .int .i64 y]) ∧ Below w.heap.size w w' := by
  obtain ⟨A, cap, hc, hrow, hcap, hcm⟩ := h.open
  obtain ⟨N, hN⟩ : ∃ N, P.length = N := ⟨_, rfl⟩
  have HN := Lib.hid hN
  have HC := Lib.hid hc
  have HRow := Lib.hid hrow
  rw [hN] at hc hl hcap
  have HL := Lib.hid hl
  have k0 := cellAt (o := 0) (v := .slice A N cap) hc rfl
  have k1 := cellAt (o := 1) (v := .int .i64 fl) hc rfl
  clear hc hrow hN h hl
  by_cases h0 : N = 0
  · subst h0
    have hP : P = [] := List.eq_nil_of_length_eq_zero HN.out
    have e1 : x = 0 ∧ y = 0 := by rw [hP] at he; cases he; exact ⟨rfl, rfl⟩
    obtain ⟨rfl, rfl⟩ := e1
    clear he hP
    go_enter Try.func28, Try.ntmps28
    go_wp2_with fail
    exact bodyPost_ret (v := .tuple #[.int .i64 0, .int .i64 0]) (by simp only [results, Try.results28]; go_simp) rfl ⟨rfl, Below.refl _ _⟩
  · have hkP : 0 < P.length := by rw [HN.out]; omega
    have hkQ : P.length - 1 < P.length := by omega
    obtain ⟨g, p, rfl, hp, hg, hpt⟩ := or_pt (n := P.length) (by exact HRow.out) (Below.refl _ _) hkP rfl
    obtain ⟨g2, q, hgg, hq, hg2, hqt⟩ := or_pt (n := P.length) (by exact HRow.out) (Below.refl _ _) hkQ rfl
    cases hgg
    have hx : p.1 = x ∧ q.1 = y := by
      unfold endsP at he
      obtain ⟨e1, e2⟩ : (P.headD (0, 0)).1 = x ∧ (P.getLastD (0, 0)).1 = y := by cases he; exact ⟨rfl, rfl⟩
      refine ⟨?_, ?_⟩
      · rw [← e1, headD_get hkP]; rw [List.getElem?_eq_getElem hkP] at hp; rw [Option.some.inj hp]
      · rw [← e2, List.getLastD_eq_getLast?, List.getLast?_eq_getElem?, hq]; rfl
    obtain ⟨p0, _, _⟩ := hpt
    obtain ⟨q0, _, _⟩ := hqt
    rw [hx.1] at p0
    rw [hx.2] at q0
    obtain ⟨i, hi⟩ : ∃ i, P.length - 1 = i := ⟨_, rfl⟩
    rw [hi] at q0
    rw [HN.out] at hi
    have hL := HL.out
    have hw : IntKind.i64.wrap ((N : Int) - 1) = (i : Int) := by rw [IntKind.wrap_i64]; omega
    have hz : ((N : Int) == 0) = false := by simp; omega
    have hi2 : (i : Int) < (N : Int) := by omega
    have hi3 : 0 < N := by omega
    have hi4 : i < N := by omega
    have HK0 := Lib.hid (fun (W : World) (hb : Below w.heap.size w W) => cellAt (o := 0) (v := .slice (some ⟨g, 0, none⟩) N cap) (keepB HC.out hb) (by rw [HN.out]; rfl))
    have HP0 := Lib.hid (fun (W : World) (hb : Below w.heap.size w W) => (hb.cell (p := ⟨g, 0 * 3, none⟩) hg).trans p0)
    have HQ0 := Lib.hid (fun (W : World) (hb : Below w.heap.size w W) => (hb.cell (p := ⟨g, i * 3, none⟩) hg).trans q0)
    clear he hp hq hg hg2 hx hkP hkQ hi h0 p0 q0
    go_enter Try.func28, Try.ntmps28
    go_wp2_with fail
    clear k0 k1
    refine wp_region_here 22 [(0, false), (1, false), (2, false), (3, false), (4, false), (5, false), (6, false), (7, false), (8, false), (9, false), (10, false), (11, false), (12, false), (13, false), (14, false), (15, false), (16, false), (17, false), (18, false), (19, false), (20, false), (21, false)] (fun _ => .cells #[] 0) (by kernel_rfl) (by kernel_rfl) ?_
    repeat (first | (refine wpP_q rfl rfl rfl ?_; apply Exists.intro; refine ⟨fun w' hw' => ?_, fun K hK => ?_⟩; (focus ((have q0 := HK0.out _ hw'; have q1 := HP0.out _ hw'; have q2 := HQ0.out _ hw'); go_simp; first | exact quiet_value | fail)); simp only [Act.put, List.setIfInBounds_toArray, List.set_cons_zero, List.set_cons_succ]; refine hK.out _ ?_; clear hK K) | (refine wpP_skip rfl rfl rfl (fun K hK => ?_); simp only [Act.put, List.setIfInBounds_toArray, List.set_cons_zero, List.set_cons_succ]; refine hK.out _ ?_; clear hK K))
    refine wpP_nil ?_
    intro w2 hb2
    have HB2 := Lib.hid hb2
    clear hb2
    (try simp only [List.drop_succ_cons]); (try simp only [List.drop_zero]); (try simp only [List.drop_nil])
    go_wp2_with fail
    exact bodyPost_ret (v := .tuple #[.int .i64 x, .int .i64 y]) (by simp only [results, Try.results28]; go_simp) rfl ⟨rfl, HB2.out⟩
/-- Times above the least number. -/
theorem range_least {t : Int} (h : TmIn P) : rangeP (-9223372036854775808) t P = P.filter (fun q => decide (q.1 ≤ t)) := by
  unfold rangeP
  refine List.filter_congr (fun q hq => ?_)
  have := h q hq
  have h1 : decide ((-9223372036854775808 : Int) < q.1) = true := by simp; omega
  rw [h1, Bool.true_and]
set_option maxHeartbeats 4000000 in
set_option maxRecDepth 100000 in
theorem rlast_any (t : Int) (hT : TmIn P) (h : RbO r P fl w G) (hl : P.length ≤ 65536) : Calls Try.prog 26 #[.pointer (some ⟨r, 0, none⟩), .int .i64 t] w fun e w' => e = .returned (lastV (lastP t P)) ∧ Below w.heap.size w w' := by
  have C := fun W (hW : Below w.heap.size w W) => rrange_any (-9223372036854775808) t ((RbO.obj _ _ _).below h hW) hl
  obtain ⟨L, hL⟩ : ∃ L, P.filter (fun q => decide (q.1 ≤ t)) = L := ⟨_, rfl⟩
  have hLl : L.length ≤ 65536 := by rw [← hL]; exact Nat.le_trans (List.length_filter_le _ _) hl
  rw [range_least hT, hL] at C
  have CC := Lib.hid C
  unfold lastP lastV
  rw [hL]
  obtain ⟨gl, hgl⟩ : ∃ gl, L.getLast? = gl := ⟨_, rfl⟩
  rw [hgl]
  have HGL := Lib.hid hgl
  have HA := Lib.hid (below_alloc (Below.refl w.heap.size w) (.cells #[.int .i64 0, .int .i64 0, .bool false] 45))
  have HR := Lib.hid (newB w (.cells #[.int .i64 0, .int .i64 0, .bool false] 45))
  clear hT h hl hL C hgl
  go_enter Try.func26, Try.ntmps26
  go_wp2_with fail
  refine (CC.out _ HA.out).mono ?_
  rintro e w1 ⟨v, rfl, hr, hb⟩
  have HB := Lib.hid (HA.out.trans (hb.mono HA.out.size))
  have HR1 := Lib.hid (keepB HR.out hb)
  have HRw := Lib.hid hr
  obtain ⟨N, hN⟩ : ∃ N, L.length = N := ⟨_, rfl⟩
  have HN := Lib.hid hN
  obtain ⟨A, cap, rfl⟩ := or_form hr
  clear hr hb CC
  rw [hN] at hLl HRw ⊢
  clear hN
  have HL := Lib.hid hLl
  clear hLl
  have r0 := cellAt (o := 0) HR1.out rfl
  have r1 := cellAt (o := 1) HR1.out rfl
  have r2 := cellAt (o := 2) HR1.out rfl
  have f0 := freeAt 0 HR1.out
  have f1 := freeAt 1 HR1.out
  have f2 := freeAt 2 HR1.out
  by_cases h0 : N = 0
  · subst h0
    have hP : L = [] := List.eq_nil_of_length_eq_zero HN.out
    subst hP
    obtain rfl : none = gl := HGL.out
    clear HRw HN HGL
    go_wp2_with fail
    refine bodyPost_ret (v := .tuple #[bpv (0, 0), .bool false]) (by simp only [results, Try.results26]; go_simp) rfl ⟨rfl, ((HB.out.setCell (Nat.le_refl _) _).setCell (Nat.le_refl _) _).setCell (Nat.le_refl _) _⟩
  · have hkQ : L.length - 1 < L.length := by rw [HN.out]; omega
    obtain ⟨g2, q, rfl, hq, hg2, hqt⟩ := or_pt (n := N) (by exact HRw.out) (Below.refl _ _) (k := L.length - 1) (by rw [HN.out]; omega) HN.out
    obtain ⟨qt, qn⟩ := q
    have hlast : L.getLast? = some (qt, qn) := by rw [List.getLast?_eq_getElem?, hq]
    obtain rfl : some (qt, qn) = gl := hlast.symm.trans HGL.out
    obtain ⟨q0, q1, q2⟩ := hqt
    obtain ⟨i, hi⟩ : ∃ i, L.length - 1 = i := ⟨_, rfl⟩
    rw [hi] at q0 q1 q2
    rw [HN.out] at hi
    simp only at q0 q1
    have hL := HL.out
    have hw : IntKind.i64.wrap ((N : Int) - 1) = (i : Int) := by rw [IntKind.wrap_i64]; omega
    have hz : ((N : Int) == 0) = false := by simp; omega
    have hi2 : (i : Int) < (N : Int) := by omega
    have hi3 : 0 < N := by omega
    have hi4 : i < N := by omega
    clear hq hg2 hlast hkQ hi h0 HN HRw
    go_wp2_with fail
    refine bodyPost_ret (v := .tuple #[bpv (qt, qn), .bool true]) (by simp only [results, Try.results26]; go_simp) rfl ⟨rfl, ((HB.out.setCell (Nat.le_refl _) _).setCell (Nat.le_refl _) _).setCell (Nat.le_refl _) _⟩
end
end Go.Proofs.Ytfblmmnofhkkaaa
