/- The reference's buffer: in memory; Put. -/
import Derived.Test.YtfblmmnofhkkaaaBfG
import Derived.Test.YtfblmmnofhkkaaaApp
import Derived.Test.YtfblmmnofhkkaaaRegF
namespace Go.Proofs.Ytfblmmnofhkkaaa
open Go.RowKit
/-- The reference's buffer. -/
def RbO (r : Nat) (P : List Pt) (fl : Int) : Ob := fun w G =>
  G r ∧ ∃ v, w.heap[r]? = some (.cells #[v, .int .i64 fl] 56 (0, 0)) ∧ w.ownsRow 0 45 3 v P.length (pcs P) ∧ ∀ k, v.ownBlock = some k → G k ∧ k ≠ r
theorem RbO.obj (r : Nat) (P : List Pt) (fl : Int) : Obj1 (RbO r P fl) where
  keep := fun ⟨h1, v, h2, h3, h4⟩ ho hn => ⟨h1, v, ho.get h2 (hn r h1 (only_lt h2)), or_keep h3 (fun g hg => ho.block g (h3.lt g hg).2 (hn g (h4 g hg).1 (h3.lt g hg).2)), h4⟩
  old := fun ⟨h1, v, h2, h3, h4⟩ => ⟨⟨h1, only_lt h2⟩, v, h2, h3, fun k hk => ⟨⟨(h4 k hk).1, (h3.lt k hk).2⟩, (h4 k hk).2⟩⟩
  weak := fun ⟨h1, v, h2, h3, h4⟩ hG => ⟨hG r (only_lt h2) h1, v, h2, h3, fun k hk => ⟨hG k (h3.lt k hk).2 (h4 k hk).1, (h4 k hk).2⟩⟩
section
variable {w w' : World} {G : Nat → Prop} {r : Nat} {P : List Pt} {fl : Int}
theorem RbO.open (h : RbO r P fl w G) : ∃ A cap, w.heap[r]? = some (.cells #[.slice A P.length cap, .int .i64 fl] 56 (0, 0)) ∧ w.ownsRow 0 45 3 (.slice A P.length cap) P.length (pcs P) ∧ P.length ≤ cap ∧ cap ≤ maxLen := by
  obtain ⟨h1, v, h2, h3, h4⟩ := h
  obtain ⟨A, cap, rfl⟩ := or_form h3
  refine ⟨A, cap, h2, h3, ?_⟩
  rcases h3.2 with ⟨e, e2⟩ | ⟨g, cap', cur, e, _, _, h5, h6, _⟩
  · simp only [Value.slice.injEq] at e
    obtain ⟨_, _, e3⟩ := e
    rw [e3, e2]; simp
  · cases e; exact ⟨h5, h6⟩
/-- A new row laid, and stored. -/
theorem RbO.fresh {w2 w5 : World} {P' : List Pt} {fl' : Int} {v : Value} (hG : G r) (hrl : r < w.heap.size) (hb : Below w.heap.size w w2) (hr : w5.heap[r]? = some (.cells #[v, .int .i64 fl'] 56 (0, 0)))
    (hrow : w5.ownsRow w2.heap.size 45 3 v P'.length (pcs P')) (ho : Only (fun i => i = r) w2 w5) : Goes (RbO r P' fl') G w w5 := by
  refine ⟨fun i => (G i ∨ w.heap.size ≤ i) ∧ i < w5.heap.size, ⟨⟨.inl hG, only_lt hr⟩, v, hr, or_base hrow (Nat.zero_le _), fun k hk => ?_⟩, fun i hi => hi, (Only.of_below hb).then ho (fun i _ e => e ▸ hG)⟩
  obtain ⟨h1, h2⟩ := World.ownsRow.lt hrow k hk
  have := hb.size
  exact ⟨⟨.inr (by omega), h2⟩, by omega⟩
end
/-! ### Rows of points that a region makes -/
def RowN (B : Nat) (v : Value) (L : List Pt) (W : World) : Prop := W.ownsRow B 45 3 v L.length (pcs L)
theorem RowN.stab (B : Nat) (L : List Pt) (v : Value) : Stab (RowN B v L) := fun _ _ h hb => or_below h hb
theorem rowN_grown {B : Nat} {w W W' : World} {v : Value} {L : List Pt} (h : RowN B v L W) (hc : Below B w W) (hg : W.grownBy W' v.ownBlock) (hB : B ≤ W.heap.size) : Below B w W' :=
  hc.grown hg hB (fun k e => (World.ownsRow.lt h k e).1)
/-- An append onto a row of the call's own, as a step. -/
theorem ap_own {B : Nat} {w W : World} {o : Oper} {a : Act} {v : Value} {L M : List Pt} {A : Option Addr} {m c : Nat} {C : World → Prop} (s x : Operand)
    (hop : o.op = .call { callee := .builtin .append, args := #[s, x], argTypes := #[39, 39] }) (hs : a.eval s = v) (hx : a.eval x = .slice A m c) (hm : m = M.length)
    (hd : RowN B v L W) (hc : Below B w W) (hB : B ≤ W.heap.size) (hr : ∃ B', Reads W B' 3 A m (pcs M)) (hl : L.length + M.length ≤ 2000000) (hC : ∀ W', Below B w W' → Only (fun k => v.ownBlock = some k) W W' → C W') :
    stepRes Try.prog (stepR C (fun _ => Triv) (fun u W => RowN B u (L ++ M) W)) ((execOp a.eval o).run Try.prog W) := by
  obtain ⟨i0, hi, hz0, hz1, hz2⟩ := info_parts pInfo
  obtain ⟨B', hr⟩ := hr
  subst hm
  obtain ⟨v', w', hrun, h2, h3, _⟩ := run_append_any (P := Try.prog) W B 39 o.type 45 i0 _ 3 24 Try.underlying39 hi hz0 hz1 hz2 rfl (by decide) v L.length (pcs L) hd B' A M.length c (pcs M) hr (pcs_one M) (by unfold maxLen; omega) (by omega) hB
  refine st_ap s x hop hs hx hrun ⟨hC _ (rowN_grown hd hc h3 hB) ⟨h3.os, h3.tape, h3.output, h3.size, fun k hk hn => h3.block k hk (fun e => hn e.symm)⟩, triv _, ?_⟩
  show World.ownsRow _ _ _ _ _ _ _
  rw [List.length_append, pcs_append]; exact h2
theorem Reads.take_ {w : World} {B n k : Nat} {A : Option Addr} {xs : List Value} (h : Reads w B 3 A n xs) (hk : k ≤ n) : Reads w B 3 A k (xs.take (k * 3)) := by
  refine ⟨by rw [List.length_take, h.1]; omega, fun h0 => ?_⟩
  obtain ⟨ad, h1, h2, h3⟩ := h.2 (by omega)
  refine ⟨ad, h1, h2, fun j u hu => h3 j u ?_⟩
  rw [List.getElem?_take] at hu
  split at hu
  · exact hu
  · cases hu
/-- An empty row that was made. -/
def DE (B : Nat) (v : Value) (W : World) : Prop := ∃ H, v = .slice (some ⟨H, 0, none⟩) 0 0 ∧ B ≤ H ∧ W.heap[H]? = some (.cells #[] 45 (0, 0))
/-- A row of one that was made. -/
def DN (p : Pt) (v : Value) (W : World) : Prop := ∃ H, v = .slice (some ⟨H, 0, none⟩) 1 1 ∧ W.heap[H]? = some (.cells #[.int .i64 p.1, .int .i64 p.2, .bool false] 45 (0, 0))
theorem DE.stab (B : Nat) (v : Value) : Stab (DE B v) := fun _ _ h hb => by
  obtain ⟨H, h1, h2, h3⟩ := h; exact ⟨H, h1, h2, keepB h3 hb⟩
theorem DN.stab (p : Pt) (v : Value) : Stab (DN p v) := fun _ _ h hb => by
  obtain ⟨H, h1, h2⟩ := h; exact ⟨H, h1, keepB h2 hb⟩
theorem Triv.stab : Stab Triv := fun _ _ _ _ => triv _
theorem DE.row {B : Nat} {v : Value} {W : World} (h : DE B v W) : RowN B v [] W := by
  obtain ⟨H, rfl, h2, h3⟩ := h
  exact ⟨rfl, .inr ⟨H, 0, #[], rfl, h2, h3, Nat.le_refl _, by simp, rfl, rfl⟩⟩
theorem rof_any (n : Int) (w : World) : Calls Try.prog 37 #[.int .i64 n] w fun e w' => e = .returned (.agg #[.int .i64 n, .bool false]) ∧ Below w.heap.size w w' := by
  go_enter Try.func37, Try.ntmps37
  go_wp2
  exact bodyPost_ret (v := .agg #[.int .i64 n, .bool false]) (by simp [results, Try.results37, go_sem]) rfl ⟨rfl, (Below.refl _ _).alloc (Nat.le_refl _) _⟩
section
variable {w : World} {G : Nat → Prop} {r : Nat} {P : List Pt} {fl : Int}
set_option maxHeartbeats 4000000 in
set_option maxRecDepth 100000 in
theorem rnew_any (w : World) : Calls Try.prog 22 #[] w fun e w' => e = .returned (.pointer (some ⟨w.heap.size, 0, none⟩)) ∧ RbO w.heap.size [] 0 w' (fun k => k = w.heap.size) ∧ Below w.heap.size w w' := by
  go_enter Try.func22, Try.ntmps22
  go_wp2_with fail
  go_ret
  exact ⟨rfl, ⟨rfl, _, newB w _, World.ownsRow_nil _ _ _ _, fun k hk => by cases hk⟩, below_alloc (Below.refl _ _) _⟩
set_option maxHeartbeats 4000000 in
set_option maxRecDepth 100000 in
theorem rput_any (t m : Int) (h : RbO r P fl w G) (hr : Rise P) (hl : P.length ≤ 65536) : Calls Try.prog 24 #[.pointer (some ⟨r, 0, none⟩), .int .i64 t, .int .i64 m] w fun e w' => e = .returned (.int .i64 (putE t P fl)) ∧ Goes (RbO r (putP t m P fl) fl) G w w' := by
  have hsame : ∀ {x : Int}, putE t P fl = x → x ≠ 0 → ∀ w', Below w.heap.size w w' → Goes (RbO r (putP t m P fl) fl) G w w' := fun he hx w' hb => by
    have : putP t m P fl = P := by unfold putP; rw [he, if_neg hx]
    rw [this]; exact Goes.below (RbO.obj _ _ _) h hb
  have HSm : Hid (∀ {x : Int}, putE t P fl = x → x ≠ 0 → ∀ w', Below w.heap.size w w' → Goes (RbO r (putP t m P fl) fl) G w w') := Lib.hid hsame
  obtain ⟨A, cap, hc, hrow, hcap, hcm⟩ := h.open
  obtain ⟨N, hN⟩ : ∃ N, P.length = N := ⟨_, rfl⟩
  have HN := Lib.hid hN
  have HC := Lib.hid hc
  have HRow := Lib.hid hrow
  have HH := Lib.hid h
  have HRi := Lib.hid hr
  rw [hN] at hc hl hcap
  have HL := Lib.hid hl
  have k0 := cellAt (o := 0) (v := .slice A N cap) hc rfl
  have k1 := cellAt (o := 1) (v := .int .i64 fl) hc rfl
  clear hc hrow hN h hr hsame hl
  by_cases h1 : t < 1 ∨ 1099511627776 < t
  · have E : putE t P fl = 2 := by unfold putE; rw [if_pos h1]
    rw [E]
    have HE := Lib.hid E
    clear E
    rcases h1 with h1 | h1
    all_goals
      go_enter Try.func24, Try.ntmps24
      go_wp2_with fail
      go_ret
      exact ⟨rfl, HSm.out HE.out (by decide) _ (Below.refl _ _)⟩
  have h1a : ¬ t < 1 := by omega
  have h1b : ¬ 1099511627776 < t := by omega
  have hE0 : putE t P fl = if t ≤ fl then 8 else if hasT t P = true then 7 else if P.length = 65536 then 3 else 0 := by unfold putE; rw [if_neg h1]
  have HE0 := Lib.hid hE0
  clear hE0 h1
  by_cases h2 : t ≤ fl
  · have E : putE t P fl = 8 := by rw [HE0.out, if_pos h2]
    rw [E]
    have HE := Lib.hid E
    clear E
    go_enter Try.func24, Try.ntmps24
    go_wp2_with fail
    go_ret
    exact ⟨rfl, HSm.out HE.out (by decide) _ (Below.refl _ _)⟩
  have hE1 : putE t P fl = if hasT t P = true then 7 else if P.length = 65536 then 3 else 0 := by rw [HE0.out, if_neg h2]
  have HE1 := Lib.hid hE1
  clear hE1 HE0
  obtain ⟨x, hx⟩ : ∃ x, putE t P fl = x := ⟨_, rfl⟩
  obtain ⟨P', hP'⟩ : ∃ x, putP t m P fl = x := ⟨_, rfl⟩
  have HX := Lib.hid hx
  have HP' := Lib.hid hP'
  rw [hx, hP']
  rw [hP'] at HSm
  clear hx hP'
  go_enter Try.func24, Try.ntmps24
  go_wp2_with fail
  go_loopw [7] (fun v wr => ∃ k : Nat, v = .int .i64 (k : Int) ∧ k ≤ N ∧ (∀ j (hj : j < P.length), j < k → P[j].1 < t) ∧ Hid (Below w.heap.size w wr)) (fun v _ => N - (intOf v).toNat)
  case atStart => exact ⟨0, rfl, Nat.zero_le _, fun _ _ h => absurd h (by omega), Lib.hid (Below.refl _ _)⟩
  case round =>
    clear k0 k1
    obtain ⟨k, rfl, hk, hlt, HB⟩ := hrel
    have k0 := cellAt (o := 0) (v := .slice A N cap) (keepB HC.out HB.out) (by rw [HN.out]; rfl)
    have HLt := Lib.hid hlt
    clear hlt
    by_cases h0 : k < N
    · have hkP : k < P.length := by rw [HN.out]; exact h0
      obtain ⟨g, p, rfl, hp, hg, hpt⟩ := or_pt (n := P.length) (by exact HRow.out) HB.out hkP rfl
      have hpe : P[k] = p := by rw [List.getElem?_eq_getElem hkP] at hp; exact Option.some.inj hp
      obtain ⟨p0, p1, p2⟩ := hpt
      obtain ⟨⟨pt, pn⟩, hpp⟩ : ∃ q, p = q := ⟨_, rfl⟩
      subst hpp
      simp only at p0 p1
      have hw : IntKind.i64.wrap ((k : Int) + 1) = ((k + 1 : Nat) : Int) := by have := HL.out; rw [IntKind.wrap_i64]; omega
      have hkN : (k : Int) < (N : Int) := by omega
      have HPE : Hid (∀ h : k < P.length, P[k] = (pt, pn)) := Lib.hid (fun _ => hpe)
      clear hp hpe hkP
      by_cases hpl : pt < t
      · go_wp2_with fail
        go_roundw
        case rel =>
          refine ⟨k + 1, rfl, by omega, fun j hj hjk => ?_, HB⟩
          rcases Nat.lt_or_eq_of_le (Nat.le_of_lt_succ hjk) with h | rfl
          · exact HLt.out j hj h
          · rw [HPE.out hj]; exact hpl
        case measure => simp [intOf]; omega
      · have hcnt : cntLt t (tms P) = k := cntLt_of (by rw [tms_len, HN.out]; omega) (fun j hj => by rw [ksAt_tms (by rw [HN.out]; omega)]; exact HLt.out j _ hj) (fun j hj hjl => by
          rw [tms_len] at hjl
          have := tms_mono HRi.out k j hj hjl
          rw [ksAt_tms (by rw [HN.out]; exact h0), HPE.out (by rw [HN.out]; exact h0)] at this
          simp only at this
          omega)
        have hfh := found_has (t := t) HRi.out
        rw [hcnt, ksAt_tms (by rw [HN.out]; exact h0), HPE.out (by rw [HN.out]; exact h0)] at hfh
        have HCnt := Lib.hid hcnt
        by_cases hpe : pt = t
        · subst hpe
          have ht7 : hasT pt P = true := by rw [← hfh]; simp [HN.out, h0]
          have hx7 : x = 7 := by rw [← HX.out, HE1.out, if_pos ht7]
          subst hx7
          clear hfh hcnt ht7
          have HX7 := HX
          go_wp2_with fail
          go_ret
          exact ⟨rfl, HSm.out HX7.out (by decide) _ HB.out⟩
        · have hhas : hasT t P = false := by rw [← hfh]; simp [hpe]
          have HHas := Lib.hid hhas
          have hpg : t < pt := by omega
          have hln := HL.out
          have hkc : k ≤ cap := by omega
          have hw0 : k ≤ N := hk
          by_cases h6 : (65536 : Int) ≤ (N : Int)
          · have hx3 : x = 3 := by rw [← HX.out, HE1.out, hhas, if_neg (by decide), if_pos (by have := HN.out; omega)]
            subst hx3
            clear hfh hcnt hhas hln
            go_wp2_with fail
            go_ret
            exact ⟨rfl, HSm.out HX.out (by decide) _ HB.out⟩
          · have hx0 : x = 0 := by rw [← HX.out, HE1.out, hhas, if_neg (by decide), if_neg (by have := HN.out; omega)]
            subst hx0
            clear hfh hcnt hhas hln
            go_wp2_with fail
            obtain ⟨A, hA⟩ : ∃ A, (some ⟨g, 0, none⟩ : Option Addr) = A := ⟨_, rfl⟩
            rw [hA] at HC HRow ⊢
            clear hA
            have HFm : Hid (∀ W, Below wr.heap.size wr W → W.cell? ⟨r, 0, none⟩ = some (.slice A N cap)) := Lib.hid (fun W hb => cellAt (o := 0) (keepB HC.out (HB.out.trans (hb.mono HB.out.size))) (by rw [HN.out]; rfl))
            have HRw : Hid (wr.ownsRow 0 45 3 (.slice A N cap) N (pcs P)) := Lib.hid (by have := or_below HRow.out HB.out; rw [HN.out] at this; exact this)
            have H0r : Hid (G r ∧ r < w.heap.size) := Lib.hid (by obtain ⟨h1, v, h2, _⟩ := HH.out; exact ⟨h1, only_lt h2⟩)
            have HT : Hid (∀ W, Below wr.heap.size wr W → ∃ B', Reads W B' 3 A k (pcs (P.take k))) := Lib.hid (fun W hb => ⟨_, by rw [← pcs_take]; exact (Reads.of_own (or_below HRw.out hb)).take_ hk⟩)
            have HD : Hid (∀ W, Below wr.heap.size wr W → ∃ B', Reads W B' 3 (if cap = k then A else Option.map (fun x => x.add (k * 3)) A) (N - k) (pcs (P.drop k))) := Lib.hid (fun W hb => ⟨_, by rw [← pcs_drop]; exact (Reads.of_own (or_below HRw.out hb)).cut hk hcap⟩)
            have hkl1 : (P.take k).length = k := by rw [List.length_take, HN.out]; omega
            have hdl1 : (P.drop k).length = N - k := by rw [List.length_drop, HN.out]
            have HKL := Lib.hid hkl1
            have HDL := Lib.hid hdl1
            have HKN := Lib.hid hk
            clear hkl1 hdl1
            refine wp_region_fork 24 (.q 0 (.q 2 (.q 3 (.q 4 (.q 5 (.q 6 (.q 7 (.q 9 (.q 10 (.q 15 (.q 16 (.q 17 (.q 18 (.q 19 (.q 20 (.alt 1 (.alt 8 (.q 11 (.q 12 (.alt 13 (.alt 14 (.alt 21 (.q 22 (.q 23 .nil)) .stop) .stop) .stop))) .stop) .stop)))))))))))))))) (Below wr.heap.size wr) Triv (by kernel_rfl) (by kernel_rfl) (Stab.below _ _ (Nat.le_refl _)) Triv.stab ((Below.refl _ _).drew) (triv _) ?_
            repeat (first | (refine wf_q rfl rfl ?_; apply Exists.intro; refine ⟨fun w' hw' => ?_, fun K hK => ?_⟩; (focus ((have q1 := HFm.out _ hw'); go_simp; first | exact quiet_value | fail)); simp only [Act.put, List.setIfInBounds_toArray, List.set_cons_zero, List.set_cons_succ]; refine hK.out _ ?_; clear hK K) | (refine wf_skip rfl rfl (fun K hK => ?_); simp only [Act.put, List.setIfInBounds_toArray, List.set_cons_zero, List.set_cons_succ]; refine hK.out _ ?_; clear hK K) | (refine wf_skipu rfl rfl (fun K hK => ?_); simp only [Act.put, List.setIfInBounds_toArray, List.set_cons_zero, List.set_cons_succ]; refine hK.out _ ?_; clear hK K))
            obtain ⟨AX, hAX⟩ : ∃ AX, (if cap = k then A else Option.map (fun x => x.add (k * 3)) A) = AX := ⟨_, rfl⟩
            rw [hAX] at HD ⊢
            clear hAX
            refine wf_step (fun _ => Triv) (fun v W => DE wr.heap.size v W) (fun _ _ _ _ _ => triv _) (fun v => DE.stab _ v) rfl rfl (fun w' hc hd => ?_) (fun K hK v1 => ?_) wf_stop
            focus
              have HC : Hid (Below wr.heap.size wr w') := Lib.hid (by first | exact hc | exact hc.1 | exact hc.1.1 | exact hc.1.1.1 | exact hc.1.1.1.1 | exact hc.1.1.1.1.1)
              clear hc hd
              go_simp
              have hb : Below wr.heap.size wr _ := HC.out.trans ((below_alloc (Below.refl w'.heap.size w') (.cells #[] 45)).mono HC.out.size)
              exact ⟨by first | exact hb | exact ⟨hb, triv _⟩ | exact ⟨⟨hb, triv _⟩, triv _⟩ | exact ⟨⟨⟨hb, triv _⟩, triv _⟩, triv _⟩ | exact ⟨⟨⟨⟨hb, triv _⟩, triv _⟩, triv _⟩, triv _⟩, triv _, ⟨_, rfl, HC.out.size, newB _ _⟩⟩
            simp only [Act.put, List.setIfInBounds_toArray, List.set_cons_zero, List.set_cons_succ]
            refine hK.out _ _ _ ?_
            clear hK K
            refine wf_step (fun _ => Triv) (fun v W => RowN wr.heap.size v (P.take k) W) (fun _ _ _ _ _ => triv _) (fun v => RowN.stab _ _ v) rfl rfl (fun w' hc hd => ?_) (fun K hK v8 => ?_) wf_stop
            focus
              have hcb : Below wr.heap.size wr w' := (by first | exact hc | exact hc.1 | exact hc.1.1 | exact hc.1.1.1 | exact hc.1.1.1.1 | exact hc.1.1.1.1.1)
              have hdr : RowN wr.heap.size v1 [] w' := DE.row hd
              exact ap_own (L := []) (M := P.take k) (.tmp 67) (.tmp 73) rfl rfl rfl HKL.out.symm hdr hcb hcb.size (HT.out _ hcb) (by rw [HKL.out]; have := HL.out; simp; omega) (fun W' hb _ => by first | exact hb | exact ⟨hb, triv _⟩ | exact ⟨⟨hb, triv _⟩, triv _⟩ | exact ⟨⟨⟨hb, triv _⟩, triv _⟩, triv _⟩ | exact ⟨⟨⟨⟨hb, triv _⟩, triv _⟩, triv _⟩, triv _⟩)
            simp only [Act.put, List.setIfInBounds_toArray, List.set_cons_zero, List.set_cons_succ]
            refine hK.out _ _ _ ?_
            clear hK K
            repeat (first | (refine wf_q rfl rfl ?_; apply Exists.intro; refine ⟨fun w' hw' => ?_, fun K hK => ?_⟩; (focus ((skip); go_simp; first | exact quiet_value | first | with_reducible exact quiet_enter (rof_any _ _))); simp only [Act.put, List.setIfInBounds_toArray, List.set_cons_zero, List.set_cons_succ]; refine hK.out _ ?_; clear hK K) | (refine wf_skip rfl rfl (fun K hK => ?_); simp only [Act.put, List.setIfInBounds_toArray, List.set_cons_zero, List.set_cons_succ]; refine hK.out _ ?_; clear hK K) | (refine wf_skipu rfl rfl (fun K hK => ?_); simp only [Act.put, List.setIfInBounds_toArray, List.set_cons_zero, List.set_cons_succ]; refine hK.out _ ?_; clear hK K))
            refine wf_step (fun _ => Triv) (fun v W => RowN wr.heap.size v8 (P.take k) W ∧ DN (t, m) v W) (fun _ _ _ _ _ => triv _) (fun v => Stab.and (RowN.stab _ _ v8) (DN.stab (t, m) v)) rfl rfl (fun w' hc hd => ?_) (fun K hK v12 => ?_) wf_stop
            focus
              have HC : Hid (Below wr.heap.size wr w') := Lib.hid (by first | exact hc | exact hc.1 | exact hc.1.1 | exact hc.1.1.1 | exact hc.1.1.1.1 | exact hc.1.1.1.1.1)
              have HDD := Lib.hid hd
              clear hc hd
              go_simp
              have hb : Below wr.heap.size wr _ := HC.out.trans ((below_alloc (Below.refl w'.heap.size w') (.cells #[.int .i64 t, .int .i64 m, .bool false] 45)).mono HC.out.size)
              exact ⟨by first | exact hb | exact ⟨hb, triv _⟩ | exact ⟨⟨hb, triv _⟩, triv _⟩ | exact ⟨⟨⟨hb, triv _⟩, triv _⟩, triv _⟩ | exact ⟨⟨⟨⟨hb, triv _⟩, triv _⟩, triv _⟩, triv _⟩, triv _, RowN.stab _ _ _ _ _ HDD.out (below_alloc (Below.refl _ _) _), ⟨_, rfl, newB _ _⟩⟩
            simp only [Act.put, List.setIfInBounds_toArray, List.set_cons_zero, List.set_cons_succ]
            refine hK.out _ _ _ ?_
            clear hK K
            refine wf_step (fun _ => Triv) (fun v W => RowN wr.heap.size v (P.take k ++ [(t, m)]) W) (fun _ _ _ _ _ => triv _) (fun v => RowN.stab _ _ v) rfl rfl (fun w' hc hd => ?_) (fun K hK v13 => ?_) wf_stop
            focus
              have hcb : Below wr.heap.size wr w' := (by first | exact hc | exact hc.1 | exact hc.1.1 | exact hc.1.1.1 | exact hc.1.1.1.1 | exact hc.1.1.1.1.1)
              obtain ⟨H, rfl, hH⟩ := hd.2
              exact ap_own (M := [(t, m)]) (.tmp 74) (.tmp 79) rfl rfl rfl rfl hd.1 hcb hcb.size ⟨w'.heap.size, rfl, fun _ => ⟨_, rfl, only_lt hH, World.news_of_block hH⟩⟩ (by rw [HKL.out]; have := HL.out; simp; omega) (fun W' hb _ => by first | exact hb | exact ⟨hb, triv _⟩ | exact ⟨⟨hb, triv _⟩, triv _⟩ | exact ⟨⟨⟨hb, triv _⟩, triv _⟩, triv _⟩ | exact ⟨⟨⟨⟨hb, triv _⟩, triv _⟩, triv _⟩, triv _⟩)
            simp only [Act.put, List.setIfInBounds_toArray, List.set_cons_zero, List.set_cons_succ]
            refine hK.out _ _ _ ?_
            clear hK K
            refine wf_step (fun _ => Triv) (fun v W => RowN wr.heap.size v (P.take k ++ [(t, m)] ++ P.drop k) W) (fun _ _ _ _ _ => triv _) (fun v => RowN.stab _ _ v) rfl rfl (fun w' hc hd => ?_) (fun K hK v20 => ?_) wf_stop
            focus
              have hcb : Below wr.heap.size wr w' := (by first | exact hc | exact hc.1 | exact hc.1.1 | exact hc.1.1.1 | exact hc.1.1.1.1 | exact hc.1.1.1.1.1)
              exact ap_own (M := P.drop k) (.tmp 80) (.tmp 86) rfl rfl rfl HDL.out.symm hd hcb hcb.size (HD.out _ hcb) (by rw [List.length_append, HKL.out, HDL.out]; have := HL.out; simp; omega) (fun W' hb _ => by first | exact hb | exact ⟨hb, triv _⟩ | exact ⟨⟨hb, triv _⟩, triv _⟩ | exact ⟨⟨⟨hb, triv _⟩, triv _⟩, triv _⟩ | exact ⟨⟨⟨⟨hb, triv _⟩, triv _⟩, triv _⟩, triv _⟩)
            simp only [Act.put, List.setIfInBounds_toArray, List.set_cons_zero, List.set_cons_succ]
            refine hK.out _ _ _ ?_
            clear hK K
            repeat (first | (refine wf_q rfl rfl ?_; apply Exists.intro; refine ⟨fun w' hw' => ?_, fun K hK => ?_⟩; (focus ((skip); go_simp; first | exact quiet_value | fail)); simp only [Act.put, List.setIfInBounds_toArray, List.set_cons_zero, List.set_cons_succ]; refine hK.out _ ?_; clear hK K) | (refine wf_skip rfl rfl (fun K hK => ?_); simp only [Act.put, List.setIfInBounds_toArray, List.set_cons_zero, List.set_cons_succ]; refine hK.out _ ?_; clear hK K) | (refine wf_skipu rfl rfl (fun K hK => ?_); simp only [Act.put, List.setIfInBounds_toArray, List.set_cons_zero, List.set_cons_succ]; refine hK.out _ ?_; clear hK K))
            refine wf_nil ?_
            rintro w3 hc hd
            have HB3 : Hid (Below wr.heap.size wr w3) := Lib.hid (by first | exact hc | exact hc.1 | exact hc.1.1 | exact hc.1.1.1 | exact hc.1.1.1.1 | exact hc.1.1.1.1.1)
            have hl3 : (P.take k ++ [(t, m)] ++ P.drop k).length = N + 1 := by rw [List.length_append, List.length_append, HKL.out, HDL.out]; simp; omega
            obtain ⟨A3, c3, rfl⟩ := or_form (show w3.ownsRow wr.heap.size 45 3 v20 _ _ from hd)
            have HD3 : Hid (w3.ownsRow wr.heap.size 45 3 (.slice A3 (N + 1) c3) (N + 1) (pcs (P.take k ++ [(t, m)] ++ P.drop k))) := Lib.hid (by rw [← hl3]; exact hd)
            rw [hl3]
            have hrw : r < wr.heap.size := Nat.lt_of_lt_of_le H0r.out.2 HB.out.size
            have g9 := keepB HC.out (HB.out.trans (HB3.out.mono HB.out.size))
            have q0 := cellAt (o := 0) (v := .slice A N cap) g9 (by rw [HN.out]; rfl)
            have f0 := freeAt 0 g9
            have HO4 := Lib.hid (Only.set w3 r 0 (.slice A3 (N + 1) c3))
            have HG4 : Hid ((w3.setCell ⟨r, 0, none⟩ (.slice A3 (N + 1) c3)).heap[r]? = some (.cells #[.slice A3 (N + 1) c3, .int .i64 fl] 56 (0, 0))) := Lib.hid (by rw [setCell_get g9]; rfl)
            have HR4 := Lib.hid (or_keep HD3.out (fun g hg => HO4.out.block g (World.ownsRow.lt HD3.out g hg).2 (fun e => by have := (World.ownsRow.lt HD3.out g hg).1; omega)))
            have hins : P' = P.take k ++ [(t, m)] ++ P.drop k := by
              rw [← HP'.out]
              unfold putP
              rw [HX.out, if_pos rfl, ins_cut HRi.out HHas.out, HCnt.out, List.append_assoc]; rfl
            have HIns := Lib.hid hins
            have HL3 := Lib.hid hl3
            clear hc hd g9 hl3 hins hrw
            (try simp only [List.drop_succ_cons]); (try simp only [List.drop_zero]); (try simp only [List.drop_nil])
            go_wp2_with fail
            go_ret
            refine ⟨rfl, ?_⟩
            rw [HIns.out]
            refine RbO.fresh (w2 := wr) H0r.out.1 H0r.out.2 HB.out HG4.out ?_ ((Only.of_below (S := fun i => i = r) HB3.out).then HO4.out (fun _ _ e => e))
            rw [HL3.out]
            exact HR4.out
    · have hkN : ¬ (k : Int) < (N : Int) := by omega
      have hcnt : cntLt t (tms P) = k := cntLt_of (by rw [tms_len, HN.out]; omega) (fun j hj => by rw [ksAt_tms (by rw [HN.out]; omega)]; exact HLt.out j _ hj) (fun j hj hjl => by rw [tms_len, HN.out] at hjl; omega)
      have hfh := found_has (t := t) HRi.out
      rw [hcnt] at hfh
      have hhas : hasT t P = false := by rw [← hfh]; simp [HN.out, h0]
      have HCnt := Lib.hid hcnt
      have HHas := Lib.hid hhas
      have hln := HL.out
      have hkc : k ≤ cap := by omega
      have hw0 : k ≤ N := hk
      have hd1 : decide ((k : Int) < (N : Int)) = false := by simp; omega
      by_cases h6 : (65536 : Int) ≤ (N : Int)
      · have hx3 : x = 3 := by rw [← HX.out, HE1.out, hhas, if_neg (by decide), if_pos (by have := HN.out; omega)]
        subst hx3
        clear hfh hcnt hhas hln h0
        go_wp2_with fail
        go_ret
        exact ⟨rfl, HSm.out HX.out (by decide) _ HB.out⟩
      · have hx0 : x = 0 := by rw [← HX.out, HE1.out, hhas, if_neg (by decide), if_neg (by have := HN.out; omega)]
        subst hx0
        clear hfh hcnt hhas hln h0
        go_wp2_with fail
        have HFm : Hid (∀ W, Below wr.heap.size wr W → W.cell? ⟨r, 0, none⟩ = some (.slice A N cap)) := Lib.hid (fun W hb => cellAt (o := 0) (keepB HC.out (HB.out.trans (hb.mono HB.out.size))) (by rw [HN.out]; rfl))
        have HRw : Hid (wr.ownsRow 0 45 3 (.slice A N cap) N (pcs P)) := Lib.hid (by have := or_below HRow.out HB.out; rw [HN.out] at this; exact this)
        have H0r : Hid (G r ∧ r < w.heap.size) := Lib.hid (by obtain ⟨h1, v, h2, _⟩ := HH.out; exact ⟨h1, only_lt h2⟩)
        have HT : Hid (∀ W, Below wr.heap.size wr W → ∃ B', Reads W B' 3 A k (pcs (P.take k))) := Lib.hid (fun W hb => ⟨_, by rw [← pcs_take]; exact (Reads.of_own (or_below HRw.out hb)).take_ hk⟩)
        have HD : Hid (∀ W, Below wr.heap.size wr W → ∃ B', Reads W B' 3 (if cap = k then A else Option.map (fun x => x.add (k * 3)) A) (N - k) (pcs (P.drop k))) := Lib.hid (fun W hb => ⟨_, by rw [← pcs_drop]; exact (Reads.of_own (or_below HRw.out hb)).cut hk hcap⟩)
        have hkl1 : (P.take k).length = k := by rw [List.length_take, HN.out]; omega
        have hdl1 : (P.drop k).length = N - k := by rw [List.length_drop, HN.out]
        have HKL := Lib.hid hkl1
        have HDL := Lib.hid hdl1
        have HKN := Lib.hid hk
        clear hkl1 hdl1
        refine wp_region_fork 24 (.q 0 (.q 2 (.q 3 (.q 4 (.q 5 (.q 6 (.q 7 (.q 9 (.q 10 (.q 15 (.q 16 (.q 17 (.q 18 (.q 19 (.q 20 (.alt 1 (.alt 8 (.q 11 (.q 12 (.alt 13 (.alt 14 (.alt 21 (.q 22 (.q 23 .nil)) .stop) .stop) .stop))) .stop) .stop)))))))))))))))) (Below wr.heap.size wr) Triv (by kernel_rfl) (by kernel_rfl) (Stab.below _ _ (Nat.le_refl _)) Triv.stab ((Below.refl _ _).drew) (triv _) ?_
        repeat (first | (refine wf_q rfl rfl ?_; apply Exists.intro; refine ⟨fun w' hw' => ?_, fun K hK => ?_⟩; (focus ((have q1 := HFm.out _ hw'); go_simp; first | exact quiet_value | fail)); simp only [Act.put, List.setIfInBounds_toArray, List.set_cons_zero, List.set_cons_succ]; refine hK.out _ ?_; clear hK K) | (refine wf_skip rfl rfl (fun K hK => ?_); simp only [Act.put, List.setIfInBounds_toArray, List.set_cons_zero, List.set_cons_succ]; refine hK.out _ ?_; clear hK K) | (refine wf_skipu rfl rfl (fun K hK => ?_); simp only [Act.put, List.setIfInBounds_toArray, List.set_cons_zero, List.set_cons_succ]; refine hK.out _ ?_; clear hK K))
        obtain ⟨AX, hAX⟩ : ∃ AX, (if cap = k then A else Option.map (fun x => x.add (k * 3)) A) = AX := ⟨_, rfl⟩
        rw [hAX] at HD ⊢
        clear hAX
        refine wf_step (fun _ => Triv) (fun v W => DE wr.heap.size v W) (fun _ _ _ _ _ => triv _) (fun v => DE.stab _ v) rfl rfl (fun w' hc hd => ?_) (fun K hK v1 => ?_) wf_stop
        focus
          have HC : Hid (Below wr.heap.size wr w') := Lib.hid (by first | exact hc | exact hc.1 | exact hc.1.1 | exact hc.1.1.1 | exact hc.1.1.1.1 | exact hc.1.1.1.1.1)
          clear hc hd
          go_simp
          have hb : Below wr.heap.size wr _ := HC.out.trans ((below_alloc (Below.refl w'.heap.size w') (.cells #[] 45)).mono HC.out.size)
          exact ⟨by first | exact hb | exact ⟨hb, triv _⟩ | exact ⟨⟨hb, triv _⟩, triv _⟩ | exact ⟨⟨⟨hb, triv _⟩, triv _⟩, triv _⟩ | exact ⟨⟨⟨⟨hb, triv _⟩, triv _⟩, triv _⟩, triv _⟩, triv _, ⟨_, rfl, HC.out.size, newB _ _⟩⟩
        simp only [Act.put, List.setIfInBounds_toArray, List.set_cons_zero, List.set_cons_succ]
        refine hK.out _ _ _ ?_
        clear hK K
        refine wf_step (fun _ => Triv) (fun v W => RowN wr.heap.size v (P.take k) W) (fun _ _ _ _ _ => triv _) (fun v => RowN.stab _ _ v) rfl rfl (fun w' hc hd => ?_) (fun K hK v8 => ?_) wf_stop
        focus
          have hcb : Below wr.heap.size wr w' := (by first | exact hc | exact hc.1 | exact hc.1.1 | exact hc.1.1.1 | exact hc.1.1.1.1 | exact hc.1.1.1.1.1)
          have hdr : RowN wr.heap.size v1 [] w' := DE.row hd
          exact ap_own (L := []) (M := P.take k) (.tmp 67) (.tmp 73) rfl rfl rfl HKL.out.symm hdr hcb hcb.size (HT.out _ hcb) (by rw [HKL.out]; have := HL.out; simp; omega) (fun W' hb _ => by first | exact hb | exact ⟨hb, triv _⟩ | exact ⟨⟨hb, triv _⟩, triv _⟩ | exact ⟨⟨⟨hb, triv _⟩, triv _⟩, triv _⟩ | exact ⟨⟨⟨⟨hb, triv _⟩, triv _⟩, triv _⟩, triv _⟩)
        simp only [Act.put, List.setIfInBounds_toArray, List.set_cons_zero, List.set_cons_succ]
        refine hK.out _ _ _ ?_
        clear hK K
        repeat (first | (refine wf_q rfl rfl ?_; apply Exists.intro; refine ⟨fun w' hw' => ?_, fun K hK => ?_⟩; (focus ((skip); go_simp; first | exact quiet_value | first | with_reducible exact quiet_enter (rof_any _ _))); simp only [Act.put, List.setIfInBounds_toArray, List.set_cons_zero, List.set_cons_succ]; refine hK.out _ ?_; clear hK K) | (refine wf_skip rfl rfl (fun K hK => ?_); simp only [Act.put, List.setIfInBounds_toArray, List.set_cons_zero, List.set_cons_succ]; refine hK.out _ ?_; clear hK K) | (refine wf_skipu rfl rfl (fun K hK => ?_); simp only [Act.put, List.setIfInBounds_toArray, List.set_cons_zero, List.set_cons_succ]; refine hK.out _ ?_; clear hK K))
        refine wf_step (fun _ => Triv) (fun v W => RowN wr.heap.size v8 (P.take k) W ∧ DN (t, m) v W) (fun _ _ _ _ _ => triv _) (fun v => Stab.and (RowN.stab _ _ v8) (DN.stab (t, m) v)) rfl rfl (fun w' hc hd => ?_) (fun K hK v12 => ?_) wf_stop
        focus
          have HC : Hid (Below wr.heap.size wr w') := Lib.hid (by first | exact hc | exact hc.1 | exact hc.1.1 | exact hc.1.1.1 | exact hc.1.1.1.1 | exact hc.1.1.1.1.1)
          have HDD := Lib.hid hd
          clear hc hd
          go_simp
          have hb : Below wr.heap.size wr _ := HC.out.trans ((below_alloc (Below.refl w'.heap.size w') (.cells #[.int .i64 t, .int .i64 m, .bool false] 45)).mono HC.out.size)
          exact ⟨by first | exact hb | exact ⟨hb, triv _⟩ | exact ⟨⟨hb, triv _⟩, triv _⟩ | exact ⟨⟨⟨hb, triv _⟩, triv _⟩, triv _⟩ | exact ⟨⟨⟨⟨hb, triv _⟩, triv _⟩, triv _⟩, triv _⟩, triv _, RowN.stab _ _ _ _ _ HDD.out (below_alloc (Below.refl _ _) _), ⟨_, rfl, newB _ _⟩⟩
        simp only [Act.put, List.setIfInBounds_toArray, List.set_cons_zero, List.set_cons_succ]
        refine hK.out _ _ _ ?_
        clear hK K
        refine wf_step (fun _ => Triv) (fun v W => RowN wr.heap.size v (P.take k ++ [(t, m)]) W) (fun _ _ _ _ _ => triv _) (fun v => RowN.stab _ _ v) rfl rfl (fun w' hc hd => ?_) (fun K hK v13 => ?_) wf_stop
        focus
          have hcb : Below wr.heap.size wr w' := (by first | exact hc | exact hc.1 | exact hc.1.1 | exact hc.1.1.1 | exact hc.1.1.1.1 | exact hc.1.1.1.1.1)
          obtain ⟨H, rfl, hH⟩ := hd.2
          exact ap_own (M := [(t, m)]) (.tmp 74) (.tmp 79) rfl rfl rfl rfl hd.1 hcb hcb.size ⟨w'.heap.size, rfl, fun _ => ⟨_, rfl, only_lt hH, World.news_of_block hH⟩⟩ (by rw [HKL.out]; have := HL.out; simp; omega) (fun W' hb _ => by first | exact hb | exact ⟨hb, triv _⟩ | exact ⟨⟨hb, triv _⟩, triv _⟩ | exact ⟨⟨⟨hb, triv _⟩, triv _⟩, triv _⟩ | exact ⟨⟨⟨⟨hb, triv _⟩, triv _⟩, triv _⟩, triv _⟩)
        simp only [Act.put, List.setIfInBounds_toArray, List.set_cons_zero, List.set_cons_succ]
        refine hK.out _ _ _ ?_
        clear hK K
        refine wf_step (fun _ => Triv) (fun v W => RowN wr.heap.size v (P.take k ++ [(t, m)] ++ P.drop k) W) (fun _ _ _ _ _ => triv _) (fun v => RowN.stab _ _ v) rfl rfl (fun w' hc hd => ?_) (fun K hK v20 => ?_) wf_stop
        focus
          have hcb : Below wr.heap.size wr w' := (by first | exact hc | exact hc.1 | exact hc.1.1 | exact hc.1.1.1 | exact hc.1.1.1.1 | exact hc.1.1.1.1.1)
          exact ap_own (M := P.drop k) (.tmp 80) (.tmp 86) rfl rfl rfl HDL.out.symm hd hcb hcb.size (HD.out _ hcb) (by rw [List.length_append, HKL.out, HDL.out]; have := HL.out; simp; omega) (fun W' hb _ => by first | exact hb | exact ⟨hb, triv _⟩ | exact ⟨⟨hb, triv _⟩, triv _⟩ | exact ⟨⟨⟨hb, triv _⟩, triv _⟩, triv _⟩ | exact ⟨⟨⟨⟨hb, triv _⟩, triv _⟩, triv _⟩, triv _⟩)
        simp only [Act.put, List.setIfInBounds_toArray, List.set_cons_zero, List.set_cons_succ]
        refine hK.out _ _ _ ?_
        clear hK K
        repeat (first | (refine wf_q rfl rfl ?_; apply Exists.intro; refine ⟨fun w' hw' => ?_, fun K hK => ?_⟩; (focus ((skip); go_simp; first | exact quiet_value | fail)); simp only [Act.put, List.setIfInBounds_toArray, List.set_cons_zero, List.set_cons_succ]; refine hK.out _ ?_; clear hK K) | (refine wf_skip rfl rfl (fun K hK => ?_); simp only [Act.put, List.setIfInBounds_toArray, List.set_cons_zero, List.set_cons_succ]; refine hK.out _ ?_; clear hK K) | (refine wf_skipu rfl rfl (fun K hK => ?_); simp only [Act.put, List.setIfInBounds_toArray, List.set_cons_zero, List.set_cons_succ]; refine hK.out _ ?_; clear hK K))
        refine wf_nil ?_
        rintro w3 hc hd
        have HB3 : Hid (Below wr.heap.size wr w3) := Lib.hid (by first | exact hc | exact hc.1 | exact hc.1.1 | exact hc.1.1.1 | exact hc.1.1.1.1 | exact hc.1.1.1.1.1)
        have hl3 : (P.take k ++ [(t, m)] ++ P.drop k).length = N + 1 := by rw [List.length_append, List.length_append, HKL.out, HDL.out]; simp; omega
        obtain ⟨A3, c3, rfl⟩ := or_form (show w3.ownsRow wr.heap.size 45 3 v20 _ _ from hd)
        have HD3 : Hid (w3.ownsRow wr.heap.size 45 3 (.slice A3 (N + 1) c3) (N + 1) (pcs (P.take k ++ [(t, m)] ++ P.drop k))) := Lib.hid (by rw [← hl3]; exact hd)
        rw [hl3]
        have hrw : r < wr.heap.size := Nat.lt_of_lt_of_le H0r.out.2 HB.out.size
        have g9 := keepB HC.out (HB.out.trans (HB3.out.mono HB.out.size))
        have q0 := cellAt (o := 0) (v := .slice A N cap) g9 (by rw [HN.out]; rfl)
        have f0 := freeAt 0 g9
        have HO4 := Lib.hid (Only.set w3 r 0 (.slice A3 (N + 1) c3))
        have HG4 : Hid ((w3.setCell ⟨r, 0, none⟩ (.slice A3 (N + 1) c3)).heap[r]? = some (.cells #[.slice A3 (N + 1) c3, .int .i64 fl] 56 (0, 0))) := Lib.hid (by rw [setCell_get g9]; rfl)
        have HR4 := Lib.hid (or_keep HD3.out (fun g hg => HO4.out.block g (World.ownsRow.lt HD3.out g hg).2 (fun e => by have := (World.ownsRow.lt HD3.out g hg).1; omega)))
        have hins : P' = P.take k ++ [(t, m)] ++ P.drop k := by
          rw [← HP'.out]
          unfold putP
          rw [HX.out, if_pos rfl, ins_cut HRi.out HHas.out, HCnt.out, List.append_assoc]; rfl
        have HIns := Lib.hid hins
        have HL3 := Lib.hid hl3
        clear hc hd g9 hl3 hins hrw
        (try simp only [List.drop_succ_cons]); (try simp only [List.drop_zero]); (try simp only [List.drop_nil])
        go_wp2_with fail
        go_ret
        refine ⟨rfl, ?_⟩
        rw [HIns.out]
        refine RbO.fresh (w2 := wr) H0r.out.1 H0r.out.2 HB.out HG4.out ?_ ((Only.of_below (S := fun i => i = r) HB3.out).then HO4.out (fun _ _ e => e))
        rw [HL3.out]
        exact HR4.out
end
end Go.Proofs.Ytfblmmnofhkkaaa
