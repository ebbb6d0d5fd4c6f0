/- The reference's bag: Put, Take. -/
import Derived.Test.YtjcbikkihijkiaaRbA
import Derived.Test.YtjcbikkihijkiaaApp
import Derived.Test.YtjcbikkihijkiaaRegF
namespace Go.Proofs.Ytjcbikkihijkiaa
open Go.RowKit
theorem undO : Try.prog.underlying 31 = some (.slice 34) := by kernel_rfl
theorem oftF_app (L M : List (Int × Nat)) : oftF (L ++ M) = oftF L ++ oftF M := by simp [oftF]
theorem oftF_take (L : List (Int × Nat)) (k : Nat) : (oftF L).take (k * 2) = oftF (L.take k) := by
  induction L generalizing k with
  | nil => simp [oftF]
  | cons p L ih =>
    cases k with
    | zero => simp [oftF]
    | succ k =>
      rw [show (k + 1) * 2 = k * 2 + 1 + 1 by omega]
      show List.take _ (.int .i64 p.1 :: .int .i64 (p.2 : Int) :: oftF L) = _
      rw [List.take_succ_cons, List.take_succ_cons, ih]; rfl
theorem oftF_drop (L : List (Int × Nat)) (k : Nat) : (oftF L).drop (k * 2) = oftF (L.drop k) := by
  induction L generalizing k with
  | nil => simp [oftF]
  | cons p L ih =>
    cases k with
    | zero => simp [oftF]
    | succ k =>
      rw [show (k + 1) * 2 = k * 2 + 1 + 1 by omega]
      show List.drop _ (.int .i64 p.1 :: .int .i64 (p.2 : Int) :: oftF L) = _
      rw [List.drop_succ_cons, List.drop_succ_cons, ih]; rfl
theorem oftF_one (L : List (Int × Nat)) : ∀ u ∈ oftF L, u.oneCell' = true := by
  intro u hu
  simp only [oftF, List.mem_flatMap, oftC] at hu
  obtain ⟨p, _, hu⟩ := hu
  simp at hu
  rcases hu with rfl | rfl <;> rfl
theorem oftF_set (L : List (Int × Nat)) (k : Nat) (n : Int) (j : Nat) (hk : k < L.length) (hn : L[k].1 = n) : (oftF L).set (k * 2 + 1) (.int .i64 (j : Int)) = oftF (L.set k (n, j)) := by
  induction L generalizing k with
  | nil => simp at hk
  | cons p L ih =>
    cases k with
    | zero =>
      obtain rfl : p.1 = n := hn
      rfl
    | succ k =>
      rw [show (k + 1) * 2 + 1 = k * 2 + 1 + 1 + 1 by omega]
      show List.set (.int .i64 p.1 :: .int .i64 (p.2 : Int) :: oftF L) _ _ = _
      rw [List.set_cons_succ, List.set_cons_succ, ih k (by simpa using hk) (by simpa using hn)]; rfl
/-- A row of the call's own for now. -/
def RowN (B : Nat) (v : Value) (L : List (Int × Nat)) (W : World) : Prop := W.ownsRow B 34 2 v L.length (oftF L)
theorem RowN.stab (B : Nat) (L : List (Int × Nat)) (v : Value) : Stab (RowN B v L) := fun _ _ h hb => own_bel h hb
theorem rowN_grown {B : Nat} {w W W' : World} {v : Value} {L : List (Int × Nat)} (h : RowN B v L W) (hc : Below B w W) (hg : W.grownBy W' v.ownBlock) (hB : B ≤ W.heap.size) : Below B w W' :=
  hc.grown hg hB (fun k e => (World.ownsRow.lt h k e).1)
/-- An append onto a row of the call's own, as a step. -/
theorem ap_own {B : Nat} {w W : World} {o : Oper} {a : Act} {v : Value} {L M : List (Int × Nat)} {A : Option Addr} {m c : Nat} {C : World → Prop} (s x : Operand)
    (hop : o.op = .call { callee := .builtin .append, args := #[s, x], argTypes := #[31, 31] }) (hs : a.eval s = v) (hx : a.eval x = .slice A m c) (hm : m = M.length)
    (hd : RowN B v L W) (hc : Below B w W) (hB : B ≤ W.heap.size) (hr : ∃ B', Reads W B' 2 A m (oftF M)) (hl : L.length + M.length ≤ 2000000) (hC : ∀ W', Below B w W' → Only (fun k => v.ownBlock = some k) W W' → C W') :
    stepRes Try.prog (stepR C (fun _ => Triv) (fun u W => RowN B u (L ++ M) W)) ((execOp a.eval o).run Try.prog W) := by
  obtain ⟨i0, hi, hz0, hz1, hz2⟩ := info_parts often_info
  obtain ⟨B', hr⟩ := hr
  subst hm
  obtain ⟨v', w', hrun, h2, h3, _⟩ := run_append_any (P := Try.prog) W B 31 o.type 34 i0 _ 2 16 undO hi hz0 hz1 hz2 rfl (by decide) v L.length (oftF L) hd B' A M.length c (oftF M) hr (oftF_one M) (by unfold maxLen; omega) (by omega) hB
  refine st_ap s x hop hs hx hrun ⟨hC _ (rowN_grown hd hc h3 hB) ⟨h3.os, h3.tape, h3.output, h3.size, fun k hk hn => h3.block k hk (fun e => hn e.symm)⟩, triv _, ?_⟩
  show World.ownsRow _ _ _ _ _ _ _
  rw [List.length_append, oftF_app]; exact h2
theorem Reads.take_ {w : World} {B n k : Nat} {A : Option Addr} {xs : List Value} (h : Reads w B 2 A n xs) (hk : k ≤ n) : Reads w B 2 A k (xs.take (k * 2)) := by
  refine ⟨by rw [List.length_take, h.1]; omega, fun h0 => ?_⟩
  obtain ⟨ad, h1, h2, h3⟩ := h.2 (by omega)
  refine ⟨ad, h1, h2, fun j u hu => h3 j u ?_⟩
  rw [List.getElem?_take] at hu
  split at hu
  · exact hu
  · cases hu
/-- An empty row that was made. -/
def DE (B : Nat) (v : Value) (W : World) : Prop := ∃ H, v = .slice (some ⟨H, 0, none⟩) 0 0 ∧ B ≤ H ∧ W.heap[H]? = some (.cells #[] 34 (0, 0))
/-- A row of one that was made. -/
def DN (n : Int) (v : Value) (W : World) : Prop := ∃ H, v = .slice (some ⟨H, 0, none⟩) 1 1 ∧ W.heap[H]? = some (.cells #[.int .i64 n, .int .i64 0] 34 (0, 0))
theorem DE.stab (B : Nat) (v : Value) : Stab (DE B v) := fun _ _ h hb => by
  obtain ⟨H, h1, h2, h3⟩ := h; exact ⟨H, h1, h2, keepB h3 hb⟩
theorem DN.stab (n : Int) (v : Value) : Stab (DN n v) := fun _ _ h hb => by
  obtain ⟨H, h1, h2⟩ := h; exact ⟨H, h1, keepB h2 hb⟩
theorem Triv.stab : Stab Triv := fun _ _ _ _ => triv _
theorem DE.row {B : Nat} {v : Value} {W : World} (h : DE B v W) : RowN B v [] W := by
  obtain ⟨H, rfl, h2, h3⟩ := h
  exact ⟨rfl, .inr ⟨H, 0, #[], rfl, h2, h3, Nat.le_refl _, by simp, rfl, rfl⟩⟩
/-- A fact that stays where an empty row alone is written. -/
def KeepE (Z : World → Prop) : Prop := ∀ B v W W', Z W → DE B v W → Only (fun k => v.ownBlock = some k) W W' → Z W'
theorem KeepE.triv : KeepE Triv := fun _ _ _ _ _ _ _ => True.intro
theorem KeepE.dn (n : Int) (u : Value) : KeepE (DN n u) := fun B v W W' hz he ho => by
  obtain ⟨H, rfl, h2⟩ := hz
  obtain ⟨H0, rfl, _, h3⟩ := he
  refine ⟨H, rfl, ho.get h2 fun e => ?_⟩
  obtain rfl : H0 = H := by simpa [Value.ownBlock] using e
  rw [h3] at h2; cases h2
theorem KeepE.and {Z Y : World → Prop} (h : KeepE Z) (k : KeepE Y) : KeepE (fun W => Z W ∧ Y W) := fun B v W W' hz he ho => ⟨h B v W W' hz.1 he ho, k B v W W' hz.2 he ho⟩
/-- The empty row's append, beside another fact. -/
theorem ap_empty {B : Nat} {w W : World} {o : Oper} {a : Act} {v : Value} {M : List (Int × Nat)} {A : Option Addr} {m c : Nat} {Z : World → Prop} (s x : Operand)
    (hop : o.op = .call { callee := .builtin .append, args := #[s, x], argTypes := #[31, 31] }) (hs : a.eval s = v) (hx : a.eval x = .slice A m c) (hm : m = M.length)
    (hd : DE B v W) (hz : Z W) (hZ : KeepE Z) {C : World → Prop} (hc : Below B w W) (hB : B ≤ W.heap.size) (hr : ∃ B', Reads W B' 2 A m (oftF M)) (hl : M.length ≤ 2000000) (hC : ∀ W', Below B w W' → C W') :
    stepRes Try.prog (stepR C (fun _ => Triv) (fun u W => RowN B u M W ∧ Z W)) ((execOp a.eval o).run Try.prog W) := by
  obtain ⟨i0, hi, hz0, hz1, hz2⟩ := info_parts often_info
  obtain ⟨B', hr⟩ := hr
  subst hm
  have hd' : W.ownsRow B 34 2 v 0 [] := hd.row
  obtain ⟨v', w', hrun, h2, h3, _⟩ := run_append_any (P := Try.prog) W B 31 o.type 34 i0 _ 2 16 undO hi hz0 hz1 hz2 rfl (by decide) v 0 [] hd' B' A M.length c (oftF M) hr (oftF_one M) (by unfold maxLen; omega) (by omega) hB
  have ho : Only (fun k => v.ownBlock = some k) W w' := ⟨h3.os, h3.tape, h3.output, h3.size, fun k hk hn => h3.block k hk (fun e => hn e.symm)⟩
  refine st_ap s x hop hs hx hrun ⟨hC _ (rowN_grown hd.row hc h3 hB), triv _, ?_, hZ B v W w' hz hd ho⟩
  show World.ownsRow _ _ _ _ _ _ _
  rw [Nat.zero_add] at h2; exact h2
/-- The reference's bag has turned. -/
def RfG (w : World) (G : Nat → Prop) (r : Nat) (L : List (Int × Nat)) (o : Nat) (w' : World) : Prop :=
  ∃ G', RfB w' G' r L o ∧ (∀ i, G' i → (G i ∨ w.heap.size ≤ i) ∧ i < w'.heap.size) ∧ Only G w w'
theorem RfB.old {w : World} {G : Nat → Prop} {r o : Nat} {L : List (Int × Nat)} (h : RfB w G r L o) : RfB w (fun k => G k ∧ k < w.heap.size) r L o := by
  obtain ⟨h1, v, h2, h3, h4⟩ := h
  exact ⟨⟨h1, only_lt h2⟩, v, h2, h3, fun k hk => ⟨⟨(h4 k hk).1, (World.ownsRow.lt h3 k hk).2⟩, (h4 k hk).2⟩⟩
theorem RfG.of_below {w w' : World} {G : Nat → Prop} {r o : Nat} {L : List (Int × Nat)} (h : RfB w G r L o) (hb : Below w.heap.size w w') : RfG w G r L o w' :=
  ⟨_, (h.below hb).old, fun _ hi => ⟨.inl hi.1, hi.2⟩, Only.of_below hb⟩
theorem RfG.fresh {w w2 w5 : World} {G : Nat → Prop} {r o' : Nat} {L' : List (Int × Nat)} {v : Value} (hG : G r) (hrl : r < w.heap.size) (hb : Below w.heap.size w w2) (hr : w5.heap[r]? = some (.cells #[v, .int .i64 (o' : Int)] 48 (0, 0)))
    (hrow : w5.ownsRow w2.heap.size 34 2 v L'.length (oftF L')) (ho : Only (fun i => i = r) w2 w5) : RfG w G r L' o' w5 := by
  refine ⟨fun i => (G i ∨ w.heap.size ≤ i) ∧ i < w5.heap.size, ⟨⟨.inl hG, only_lt hr⟩, v, hr, own_base hrow (Nat.zero_le _), fun k hk => ?_⟩, fun i hi => hi, (Only.of_below hb).then ho (fun i _ e => e ▸ hG)⟩
  obtain ⟨h1, h2⟩ := World.ownsRow.lt hrow k hk
  have := hb.size
  exact ⟨⟨.inr (by omega), h2⟩, by omega⟩
section
variable {w : World} {G : Nat → Prop} {r o : Nat} {L : List (Int × Nat)}
set_option maxHeartbeats 4000000 in
set_option maxRecDepth 100000 in
theorem rput_bad (n : Int) (hn : n ≠ 0) (h : RfB w G r L o) : Calls Try.prog 19 #[.pointer (some ⟨r, 0, none⟩), .agg #[.int .i64 n, .bool true]] w fun e w' => e = .returned (.int .i64 2) ∧ RfG w G r L o w' := by
  have HB := Lib.hid (below_alloc (Below.refl w.heap.size w) (Obj.cells #[.int .i64 (n), .bool true] 29))
  have HX := Lib.hid (newB w (Obj.cells #[.int .i64 (n), .bool true] 29))
  have H0 := Lib.hid h
  have H := Lib.hid (h.below HB.out)
  have c0 := cellAt (o := 0) HX.out rfl
  have c1 := cellAt (o := 1) HX.out rfl
  clear h
  go_enter Try.func19, Try.ntmps19
  go_wp2_with fail
  refine (rcheck_bad n hn _).mono ?_
  rintro e w1 ⟨rfl, hb1⟩
  have HB1 := Lib.hid (HB.out.trans (hb1.mono HB.out.size))
  have HX1 := Lib.hid (keepB HX.out hb1)
  have H1 := Lib.hid (H.out.below hb1)
  clear hb1 c0 c1
  have c0 := cellAt (o := 0) HX1.out rfl
  have c1 := cellAt (o := 1) HX1.out rfl
  go_wp2_with fail
  go_ret
  exact ⟨rfl, RfG.of_below H0.out HB1.out⟩
/-- The count of overs is stored. -/
theorem RfB.over {w w1 : World} {o' : Nat} (h : RfB w G r L o) (hb : Below w.heap.size w w1) : RfG w G r L o' (w1.setCell ⟨r, 1, none⟩ (.int .i64 (o' : Int))) := by
  have h0 := h.below hb
  obtain ⟨h1, v, h2, h3, h4⟩ := h0
  have hs := Only.set w1 r 1 (.int .i64 (o' : Int))
  refine ⟨_, RfB.old (G := G) ⟨h1, v, by rw [setCell_get h2]; rfl, own_keep h3 (fun g hg => hs.block g (World.ownsRow.lt h3 g hg).2 (h4 g hg).2), h4⟩, fun i hi => ⟨.inl hi.1, hi.2⟩, (Only.of_below hb).then hs (fun i _ e => e ▸ h1)⟩
set_option maxHeartbeats 4000000 in
set_option maxRecDepth 100000 in
theorem rput_over (h : RfB w G r L o) (ho : o ≤ 1000000) : Calls Try.prog 19 #[.pointer (some ⟨r, 0, none⟩), .agg #[.int .i64 0, .bool true]] w fun e w' => e = .returned (.int .i64 0) ∧ RfG w G r L (o + 1) w' := by
  have hw : IntKind.i64.wrap ((o : Int) + 1) = ((o + 1 : Nat) : Int) := by rw [IntKind.wrap_i64]; omega
  have HB := Lib.hid (below_alloc (Below.refl w.heap.size w) (Obj.cells #[.int .i64 (0), .bool true] 29))
  have HX := Lib.hid (newB w (Obj.cells #[.int .i64 (0), .bool true] 29))
  have H0 := Lib.hid h
  have H := Lib.hid (h.below HB.out)
  have c0 := cellAt (o := 0) HX.out rfl
  have c1 := cellAt (o := 1) HX.out rfl
  clear h
  go_enter Try.func19, Try.ntmps19
  go_wp2_with fail
  refine (rcheck_ok 0 true (.inr rfl) _).mono ?_
  rintro e w1 ⟨rfl, hb1⟩
  have HB1 := Lib.hid (HB.out.trans (hb1.mono HB.out.size))
  have HX1 := Lib.hid (keepB HX.out hb1)
  have H1 := Lib.hid (H.out.below hb1)
  clear hb1 c0 c1
  have c0 := cellAt (o := 0) HX1.out rfl
  have c1 := cellAt (o := 1) HX1.out rfl
  obtain ⟨A, cap, g1, g2⟩ := H1.out.open
  have q1 := cellAt (o := 1) g1 rfl
  have f1 := freeAt 1 g1
  clear g1 g2
  go_wp2_with fail
  go_ret
  exact ⟨rfl, H0.out.over HB1.out⟩
set_option maxHeartbeats 4000000 in
set_option maxRecDepth 100000 in
theorem rput_new (n : Int) (h : RfB w G r L o) (hok : OkL L) (hi : isL n L = false) (hb : L.length ≤ 100000) : Calls Try.prog 19 #[.pointer (some ⟨r, 0, none⟩), .agg #[.int .i64 n, .bool false]] w fun e w' => e = .returned (.int .i64 0) ∧ RfG w G r (insL n 1 L) o w' := by
  rw [(at_none hok.asc hi).2]
  have hkl := atL_le n L
  obtain ⟨k, hk⟩ : ∃ k, atL n L = k := ⟨_, rfl⟩
  have HK := Lib.hid hk
  have HI := Lib.hid hi
  rw [hk] at hkl ⊢
  clear hk hi
  have HB := Lib.hid (below_alloc (Below.refl w.heap.size w) (Obj.cells #[.int .i64 (n), .bool false] 29))
  have HX := Lib.hid (newB w (Obj.cells #[.int .i64 (n), .bool false] 29))
  have H0 := Lib.hid h
  have H := Lib.hid (h.below HB.out)
  have c0 := cellAt (o := 0) HX.out rfl
  have c1 := cellAt (o := 1) HX.out rfl
  clear h
  go_enter Try.func19, Try.ntmps19
  go_wp2_with fail
  refine (rcheck_ok n false (.inl rfl) _).mono ?_
  rintro e w1 ⟨rfl, hb1⟩
  have HB1 := Lib.hid (HB.out.trans (hb1.mono HB.out.size))
  have HX1 := Lib.hid (keepB HX.out hb1)
  have H1 := Lib.hid (H.out.below hb1)
  clear hb1 c0 c1
  have c0 := cellAt (o := 0) HX1.out rfl
  have c1 := cellAt (o := 1) HX1.out rfl
  have CA := Lib.hid (rat_any n H1.out (by omega))
  rw [HI.out, HK.out] at CA
  go_wp2_with fail
  refine CA.out.mono ?_
  rintro e w2 ⟨rfl, hb2⟩
  have HB2 := Lib.hid (HB1.out.trans (hb2.mono HB1.out.size))
  have HX2 := Lib.hid (keepB HX1.out hb2)
  have H2 := Lib.hid (H1.out.below hb2)
  clear hb2 c0 c1 CA
  obtain ⟨A, cap, g1, g2⟩ := H2.out.open
  have hcap := (ownsRow_cap g2).2
  obtain ⟨N, hN⟩ : ∃ N, L.length = N := ⟨_, rfl⟩
  have HNN := Lib.hid hN
  have HG1 := Lib.hid g1
  have HR2 := Lib.hid g2
  rw [hN] at hb hkl hcap
  have hkc : k ≤ cap := by omega
  have HFm : Hid (∀ W, Below w2.heap.size w2 W → W.cell? ⟨r, 0, none⟩ = some (.slice A N cap)) := Lib.hid (fun W hb => by rw [← hN]; exact cellAt (o := 0) (keepB g1 hb) rfl)
  clear g1 g2 hN
  go_wp2_with fail
  refine wp_region_fork 21 (.q 0 (.q 2 (.q 3 (.q 4 (.q 5 (.q 6 (.q 7 (.q 9 (.q 10 (.q 11 (.q 14 (.q 15 (.q 16 (.q 17 (.q 18 (.q 19 (.alt 1 (.alt 8 (.alt 12 (.alt 13 (.alt 20 .nil .stop) .stop) .stop) (.alt 12 (.alt 8 (.alt 13 (.alt 20 .nil .stop) .stop) .stop) .stop)) (.alt 12 (.alt 1 (.alt 8 (.alt 13 (.alt 20 .nil .stop) .stop) .stop) .stop) .stop)))))))))))))))))) (Below w2.heap.size w2) Triv (by kernel_rfl) (by kernel_rfl) (Stab.below _ _ (Nat.le_refl _)) Triv.stab ((Below.refl _ _).drew) (triv _) ?_
  repeat (first | (refine wf_q rfl rfl ?_; apply Exists.intro; refine ⟨fun w' hw' => ?_, fun K hK => ?_⟩; (focus ((have q0 := keepB HX2.out hw'; have c0 := cellAt (o := 0) q0 rfl; have q1 := HFm.out _ hw'; clear q0); go_simp; first | exact quiet_value | fail)); simp only [Act.put, List.setIfInBounds_toArray, List.set_cons_zero, List.set_cons_succ]; refine hK.out _ ?_; clear hK K) | (refine wf_skip rfl rfl (fun K hK => ?_); simp only [Act.put, List.setIfInBounds_toArray, List.set_cons_zero, List.set_cons_succ]; refine hK.out _ ?_; clear hK K) | (refine wf_skipu rfl rfl (fun K hK => ?_); simp only [Act.put, List.setIfInBounds_toArray, List.set_cons_zero, List.set_cons_succ]; refine hK.out _ ?_; clear hK K))
  have H0r : Hid (G r ∧ r < w.heap.size) := Lib.hid (by obtain ⟨h1, v, h2, _⟩ := H0.out; exact ⟨h1, only_lt h2⟩)
  have HT : Hid (∀ W, Below w2.heap.size w2 W → ∃ B', Reads W B' 2 A k (oftF (L.take k))) := Lib.hid (fun W hb => ⟨_, by rw [← oftF_take]; exact (Reads.of_own (own_bel HR2.out hb)).take_ (by rw [HNN.out]; exact hkl)⟩)
  have HD : Hid (∀ W, Below w2.heap.size w2 W → ∃ B', Reads W B' 2 (if cap = k then A else Option.map (fun x => x.add (k * 2)) A) (N - k) (oftF (L.drop k))) := Lib.hid (fun W hb => ⟨_, by rw [← oftF_drop, ← HNN.out]; exact (Reads.of_own (own_bel HR2.out hb)).cut (by rw [HNN.out]; exact hkl) (by rw [HNN.out]; exact hcap)⟩)
  obtain ⟨AX, hAX⟩ : ∃ AX, (if cap = k then A else Option.map (fun x => x.add (k * 2)) A) = AX := ⟨_, rfl⟩
  rw [hAX] at HD ⊢
  clear hAX
  have hkl1 : (L.take k).length = k := by rw [List.length_take, HNN.out]; omega
  have hdl1 : (L.drop k).length = N - k := by rw [List.length_drop, HNN.out]
  have HKL := Lib.hid hkl1
  have HDL := Lib.hid hdl1
  clear hkl1 hdl1
  refine wf_step (fun _ => Triv) (fun v W => DE w2.heap.size v W ∧ (Triv) W) (fun _ _ _ _ _ => triv _) (fun v => Stab.and (DE.stab _ v) (Triv.stab)) rfl rfl (fun w' hc hd => ?_) (fun K hK v1 => ?_) ?_
  focus
    have HC : Hid (Below w2.heap.size w2 w') := Lib.hid (by first | exact hc | exact hc.1 | exact hc.1.1 | exact hc.1.1.1 | exact hc.1.1.1.1 | exact hc.1.1.1.1.1)
    have HDD := Lib.hid hd
    clear hc hd
    go_simp
    have hb : Below w2.heap.size w2 _ := HC.out.trans ((below_alloc (Below.refl w'.heap.size w') (.cells #[] 34)).mono HC.out.size)
    exact ⟨by first | exact hb | exact ⟨hb, triv _⟩ | exact ⟨⟨hb, triv _⟩, triv _⟩ | exact ⟨⟨⟨hb, triv _⟩, triv _⟩, triv _⟩ | exact ⟨⟨⟨⟨hb, triv _⟩, triv _⟩, triv _⟩, triv _⟩, triv _, ⟨_, rfl, HC.out.size, newB _ _⟩, (Triv.stab) _ _ HDD.out (below_alloc (Below.refl _ _) _)⟩
  · skip
    simp only [Act.put, List.setIfInBounds_toArray, List.set_cons_zero, List.set_cons_succ]
    refine hK.out _ _ _ ?_
    clear hK K
    refine wf_step (fun _ => Triv) (fun v W => RowN w2.heap.size v (L.take k) W ∧ (Triv) W) (fun _ _ _ _ _ => triv _) (fun v => Stab.and (RowN.stab _ _ v) (Triv.stab)) rfl rfl (fun w' hc hd => ?_) (fun K hK v8 => ?_) ?_
    focus
      have hcb : Below w2.heap.size w2 w' := (by first | exact hc | exact hc.1 | exact hc.1.1 | exact hc.1.1.1 | exact hc.1.1.1.1 | exact hc.1.1.1.1.1)
      exact ap_empty (.tmp 32) (.tmp 38) rfl rfl rfl HKL.out.symm hd.1 hd.2 (KeepE.triv) hcb hcb.size (HT.out _ hcb) (by rw [HKL.out]; omega) (fun W' hb => by first | exact hb | exact ⟨hb, triv _⟩ | exact ⟨⟨hb, triv _⟩, triv _⟩ | exact ⟨⟨⟨hb, triv _⟩, triv _⟩, triv _⟩ | exact ⟨⟨⟨⟨hb, triv _⟩, triv _⟩, triv _⟩, triv _⟩)
    · skip
      simp only [Act.put, List.setIfInBounds_toArray, List.set_cons_zero, List.set_cons_succ]
      refine hK.out _ _ _ ?_
      clear hK K
      refine wf_step (fun _ => Triv) (fun v W => (fun W => RowN w2.heap.size v8 (L.take k) W ∧ Triv W) W ∧ DN n v W) (fun _ _ _ _ _ => triv _) (fun v => Stab.and (Stab.and (RowN.stab _ _ _) Triv.stab) (DN.stab n v)) rfl rfl (fun w' hc hd => ?_) (fun K hK v12 => ?_) ?_
      focus
        have HC : Hid (Below w2.heap.size w2 w') := Lib.hid (by first | exact hc | exact hc.1 | exact hc.1.1 | exact hc.1.1.1 | exact hc.1.1.1.1 | exact hc.1.1.1.1.1)
        have HDD := Lib.hid hd
        clear hc hd
        go_simp
        have hb : Below w2.heap.size w2 _ := HC.out.trans ((below_alloc (Below.refl w'.heap.size w') (.cells #[.int .i64 n, .int .i64 0] 34)).mono HC.out.size)
        exact ⟨by first | exact hb | exact ⟨hb, triv _⟩ | exact ⟨⟨hb, triv _⟩, triv _⟩ | exact ⟨⟨⟨hb, triv _⟩, triv _⟩, triv _⟩ | exact ⟨⟨⟨⟨hb, triv _⟩, triv _⟩, triv _⟩, triv _⟩, triv _, (Stab.and (RowN.stab _ _ _) Triv.stab) _ _ HDD.out (below_alloc (Below.refl _ _) _), ⟨_, rfl, newB _ _⟩⟩
      · skip
        simp only [Act.put, List.setIfInBounds_toArray, List.set_cons_zero, List.set_cons_succ]
        refine hK.out _ _ _ ?_
        clear hK K
        refine wf_step (fun _ => Triv) (fun v W => RowN w2.heap.size v (L.take k ++ [(n, 0)]) W) (fun _ _ _ _ _ => triv _) (fun v => RowN.stab _ _ v) rfl rfl (fun w' hc hd => ?_) (fun K hK v13 => ?_) ?_
        focus
          have hcb : Below w2.heap.size w2 w' := (by first | exact hc | exact hc.1 | exact hc.1.1 | exact hc.1.1.1 | exact hc.1.1.1.1 | exact hc.1.1.1.1.1)
          obtain ⟨H, rfl, hH⟩ := hd.2
          exact ap_own (M := [(n, 0)]) (.tmp 39) (.tmp 43) rfl rfl rfl rfl hd.1.1 hcb hcb.size ⟨w'.heap.size, rfl, fun _ => ⟨_, rfl, only_lt hH, World.news_of_block hH⟩⟩ (by rw [HKL.out]; simp; omega) (fun W' hb _ => by first | exact hb | exact ⟨hb, triv _⟩ | exact ⟨⟨hb, triv _⟩, triv _⟩ | exact ⟨⟨⟨hb, triv _⟩, triv _⟩, triv _⟩ | exact ⟨⟨⟨⟨hb, triv _⟩, triv _⟩, triv _⟩, triv _⟩)
        · skip
          simp only [Act.put, List.setIfInBounds_toArray, List.set_cons_zero, List.set_cons_succ]
          refine hK.out _ _ _ ?_
          clear hK K
          refine wf_step (fun _ => Triv) (fun v W => RowN w2.heap.size v (L.take k ++ [(n, 0)] ++ L.drop k) W) (fun _ _ _ _ _ => triv _) (fun v => RowN.stab _ _ v) rfl rfl (fun w' hc hd => ?_) (fun K hK v20 => ?_) wf_stop
          focus
            have hcb : Below w2.heap.size w2 w' := (by first | exact hc | exact hc.1 | exact hc.1.1 | exact hc.1.1.1 | exact hc.1.1.1.1 | exact hc.1.1.1.1.1)
            exact ap_own (M := L.drop k) (.tmp 44) (.tmp 50) rfl rfl rfl HDL.out.symm hd hcb hcb.size (HD.out _ hcb) (by rw [List.length_append, HKL.out, HDL.out]; simp; omega) (fun W' hb _ => by first | exact hb | exact ⟨hb, triv _⟩ | exact ⟨⟨hb, triv _⟩, triv _⟩ | exact ⟨⟨⟨hb, triv _⟩, triv _⟩, triv _⟩ | exact ⟨⟨⟨⟨hb, triv _⟩, triv _⟩, triv _⟩, triv _⟩)
          simp only [Act.put, List.setIfInBounds_toArray, List.set_cons_zero, List.set_cons_succ]
          refine hK.out _ _ _ ?_
          clear hK K
          refine wf_nil ?_
          rintro w3 hc hd
          have HB3 : Hid (Below w2.heap.size w2 w3) := Lib.hid (by first | exact hc | exact hc.1 | exact hc.1.1 | exact hc.1.1.1 | exact hc.1.1.1.1 | exact hc.1.1.1.1.1)
          have hl3 : (L.take k ++ [(n, 0)] ++ L.drop k).length = N + 1 := by rw [List.length_append, List.length_append, HKL.out, HDL.out]; simp; omega
          obtain ⟨A3, c3, rfl⟩ := ownsRow_form (show w3.ownsRow w2.heap.size 34 2 v20 _ _ from hd)
          obtain ⟨g3, rfl⟩ := ownsRow_at (show w3.ownsRow w2.heap.size 34 2 _ _ _ from hd) (by rw [hl3]; omega)
          have hg3 := (World.ownsRow.lt (show w3.ownsRow w2.heap.size 34 2 _ _ _ from hd) g3 rfl).1
          have HD3 : Hid (w3.ownsRow w2.heap.size 34 2 (.slice (some ⟨g3, 0, none⟩) (N + 1) c3) (N + 1) (oftF (L.take k ++ [(n, 0)] ++ L.drop k))) := Lib.hid (by rw [← hl3]; exact hd)
          rw [hl3]
          have hrw2 := only_lt HG1.out
          have g9 := keepB HG1.out HB3.out
          have q0 := cellAt (o := 0) g9 rfl
          have f0 := freeAt 0 g9
          have HO4 := Lib.hid (Only.set w3 r 0 (.slice (some ⟨g3, 0, none⟩) (N + 1) c3))
          have HG4 : Hid ((w3.setCell ⟨r, 0, none⟩ (.slice (some ⟨g3, 0, none⟩) (N + 1) c3)).heap[r]? = some (.cells #[.slice (some ⟨g3, 0, none⟩) (N + 1) c3, .int .i64 (o : Int)] 48 (0, 0))) := Lib.hid (by rw [setCell_get g9]; rfl)
          have hne : r ≠ g3 := by omega
          have HR4 := Lib.hid (own_keep HD3.out (fun g hg => HO4.out.block g (World.ownsRow.lt HD3.out g hg).2 (fun e => absurd (show g3 = g from by simpa [Value.ownBlock] using hg) (fun h8 => hne (e.symm.trans h8.symm)))))
          have hkN : k < (L.take k ++ [(n, 0)] ++ L.drop k).length := by rw [hl3]; omega
          have hat : (L.take k ++ [(n, 0)] ++ L.drop k)[k] = (n, 0) := by
            rw [List.getElem_append_left (by rw [List.length_append, HKL.out]; simp), List.getElem_append_right (by rw [HKL.out]; exact Nat.le_refl _)]; simp
          have z1 : w3.cell? ⟨g3, k * 2 + 1, none⟩ = some (.int .i64 0) := by
            have h8 := World.ownsRow.cellAt HD3.out (k * 2 + 1) (by omega)
            rw [h8, (oftF_get _ k hkN).2, hat]; rfl
          have z2 := World.ownsRow.frozenAt HD3.out (k * 2 + 1)
          have HS5 := Lib.hid (World.ownsRow.stored HR4.out (k * 2 + 1) (.int .i64 1))
          have HO5 := Lib.hid (Only.set (w3.setCell ⟨r, 0, none⟩ (.slice (some ⟨g3, 0, none⟩) (N + 1) c3)) g3 (k * 2 + 1) (.int .i64 1))
          have HG5 := Lib.hid (HO5.out.get HG4.out hne)
          have HL5 : Hid ((oftF (L.take k ++ [(n, 0)] ++ L.drop k)).set (k * 2 + 1) (.int .i64 1) = oftF (L.take k ++ (n, 1) :: L.drop k)) := Lib.hid (by
            have h8 := oftF_set (L.take k ++ [(n, 0)] ++ L.drop k) k n 1 hkN (by rw [hat])
            have h9 : (L.take k ++ [(n, 0)] ++ L.drop k).set k (n, 1) = L.take k ++ (n, 1) :: L.drop k := by
              rw [List.append_assoc, List.set_append_right _ _ (by rw [HKL.out]; exact Nat.le_refl _), HKL.out]; simp
            rw [h9] at h8; exact h8)
          have hk1 : k < N + 1 := by omega
          have hne2 : ¬ g3 = r := fun e => hne e.symm
          have HGR := Lib.hid hg3
          have HRW := Lib.hid hrw2
          clear hat hkN hc hd g9 hl3
          try simp only [List.drop_succ_cons, List.drop_zero]
          go_wp2_with fail
          go_ret
          refine ⟨rfl, RfG.fresh (w2 := w2) H0r.out.1 H0r.out.2 HB2.out HG5.out ?_ ?_⟩
          · have h8 := HS5.out.1
            rw [HL5.out] at h8
            have h9 : (L.take k ++ (n, 1) :: L.drop k).length = N + 1 := by rw [List.length_append, List.length_cons, HKL.out, HDL.out]; omega
            rw [h9]; exact h8
          · exact ((Only.of_below (S := fun i => i = r) HB3.out).then HO4.out (fun _ _ e => e)).then HO5.out (fun i hi e => by have := HGR.out; omega)
        · exact wf_stop
      · exact wf_stop
    · skip
      refine wf_step (fun _ => Triv) (fun v W => (fun W => DE w2.heap.size v1 W ∧ Triv W) W ∧ DN n v W) (fun _ _ _ _ _ => triv _) (fun v => Stab.and (Stab.and (DE.stab _ _) Triv.stab) (DN.stab n v)) rfl rfl (fun w' hc hd => ?_) (fun K hK v12 => ?_) ?_
      focus
        have HC : Hid (Below w2.heap.size w2 w') := Lib.hid (by first | exact hc | exact hc.1 | exact hc.1.1 | exact hc.1.1.1 | exact hc.1.1.1.1 | exact hc.1.1.1.1.1)
        have HDD := Lib.hid hd
        clear hc hd
        go_simp
        have hb : Below w2.heap.size w2 _ := HC.out.trans ((below_alloc (Below.refl w'.heap.size w') (.cells #[.int .i64 n, .int .i64 0] 34)).mono HC.out.size)
        exact ⟨by first | exact hb | exact ⟨hb, triv _⟩ | exact ⟨⟨hb, triv _⟩, triv _⟩ | exact ⟨⟨⟨hb, triv _⟩, triv _⟩, triv _⟩ | exact ⟨⟨⟨⟨hb, triv _⟩, triv _⟩, triv _⟩, triv _⟩, triv _, (Stab.and (DE.stab _ _) Triv.stab) _ _ HDD.out (below_alloc (Below.refl _ _) _), ⟨_, rfl, newB _ _⟩⟩
      · skip
        simp only [Act.put, List.setIfInBounds_toArray, List.set_cons_zero, List.set_cons_succ]
        refine hK.out _ _ _ ?_
        clear hK K
        refine wf_step (fun _ => Triv) (fun v W => RowN w2.heap.size v (L.take k) W ∧ (DN n v12) W) (fun _ _ _ _ _ => triv _) (fun v => Stab.and (RowN.stab _ _ v) (DN.stab n v12)) rfl rfl (fun w' hc hd => ?_) (fun K hK v8 => ?_) ?_
        focus
          have hcb : Below w2.heap.size w2 w' := (by first | exact hc | exact hc.1 | exact hc.1.1 | exact hc.1.1.1 | exact hc.1.1.1.1 | exact hc.1.1.1.1.1)
          exact ap_empty (.tmp 32) (.tmp 38) rfl rfl rfl HKL.out.symm hd.1.1 hd.2 (KeepE.dn n v12) hcb hcb.size (HT.out _ hcb) (by rw [HKL.out]; omega) (fun W' hb => by first | exact hb | exact ⟨hb, triv _⟩ | exact ⟨⟨hb, triv _⟩, triv _⟩ | exact ⟨⟨⟨hb, triv _⟩, triv _⟩, triv _⟩ | exact ⟨⟨⟨⟨hb, triv _⟩, triv _⟩, triv _⟩, triv _⟩)
        · skip
          simp only [Act.put, List.setIfInBounds_toArray, List.set_cons_zero, List.set_cons_succ]
          refine hK.out _ _ _ ?_
          clear hK K
          refine wf_step (fun _ => Triv) (fun v W => RowN w2.heap.size v (L.take k ++ [(n, 0)]) W) (fun _ _ _ _ _ => triv _) (fun v => RowN.stab _ _ v) rfl rfl (fun w' hc hd => ?_) (fun K hK v13 => ?_) ?_
          focus
            have hcb : Below w2.heap.size w2 w' := (by first | exact hc | exact hc.1 | exact hc.1.1 | exact hc.1.1.1 | exact hc.1.1.1.1 | exact hc.1.1.1.1.1)
            obtain ⟨H, rfl, hH⟩ := hd.2
            exact ap_own (M := [(n, 0)]) (.tmp 39) (.tmp 43) rfl rfl rfl rfl hd.1 hcb hcb.size ⟨w'.heap.size, rfl, fun _ => ⟨_, rfl, only_lt hH, World.news_of_block hH⟩⟩ (by rw [HKL.out]; simp; omega) (fun W' hb _ => by first | exact hb | exact ⟨hb, triv _⟩ | exact ⟨⟨hb, triv _⟩, triv _⟩ | exact ⟨⟨⟨hb, triv _⟩, triv _⟩, triv _⟩ | exact ⟨⟨⟨⟨hb, triv _⟩, triv _⟩, triv _⟩, triv _⟩)
          · skip
            simp only [Act.put, List.setIfInBounds_toArray, List.set_cons_zero, List.set_cons_succ]
            refine hK.out _ _ _ ?_
            clear hK K
            refine wf_step (fun _ => Triv) (fun v W => RowN w2.heap.size v (L.take k ++ [(n, 0)] ++ L.drop k) W) (fun _ _ _ _ _ => triv _) (fun v => RowN.stab _ _ v) rfl rfl (fun w' hc hd => ?_) (fun K hK v20 => ?_) wf_stop
            focus
              have hcb : Below w2.heap.size w2 w' := (by first | exact hc | exact hc.1 | exact hc.1.1 | exact hc.1.1.1 | exact hc.1.1.1.1 | exact hc.1.1.1.1.1)
              exact ap_own (M := L.drop k) (.tmp 44) (.tmp 50) rfl rfl rfl HDL.out.symm hd hcb hcb.size (HD.out _ hcb) (by rw [List.length_append, HKL.out, HDL.out]; simp; omega) (fun W' hb _ => by first | exact hb | exact ⟨hb, triv _⟩ | exact ⟨⟨hb, triv _⟩, triv _⟩ | exact ⟨⟨⟨hb, triv _⟩, triv _⟩, triv _⟩ | exact ⟨⟨⟨⟨hb, triv _⟩, triv _⟩, triv _⟩, triv _⟩)
            simp only [Act.put, List.setIfInBounds_toArray, List.set_cons_zero, List.set_cons_succ]
            refine hK.out _ _ _ ?_
            clear hK K
            refine wf_nil ?_
            rintro w3 hc hd
            have HB3 : Hid (Below w2.heap.size w2 w3) := Lib.hid (by first | exact hc | exact hc.1 | exact hc.1.1 | exact hc.1.1.1 | exact hc.1.1.1.1 | exact hc.1.1.1.1.1)
            have hl3 : (L.take k ++ [(n, 0)] ++ L.drop k).length = N + 1 := by rw [List.length_append, List.length_append, HKL.out, HDL.out]; simp; omega
            obtain ⟨A3, c3, rfl⟩ := ownsRow_form (show w3.ownsRow w2.heap.size 34 2 v20 _ _ from hd)
            obtain ⟨g3, rfl⟩ := ownsRow_at (show w3.ownsRow w2.heap.size 34 2 _ _ _ from hd) (by rw [hl3]; omega)
            have hg3 := (World.ownsRow.lt (show w3.ownsRow w2.heap.size 34 2 _ _ _ from hd) g3 rfl).1
            have HD3 : Hid (w3.ownsRow w2.heap.size 34 2 (.slice (some ⟨g3, 0, none⟩) (N + 1) c3) (N + 1) (oftF (L.take k ++ [(n, 0)] ++ L.drop k))) := Lib.hid (by rw [← hl3]; exact hd)
            rw [hl3]
            have hrw2 := only_lt HG1.out
            have g9 := keepB HG1.out HB3.out
            have q0 := cellAt (o := 0) g9 rfl
            have f0 := freeAt 0 g9
            have HO4 := Lib.hid (Only.set w3 r 0 (.slice (some ⟨g3, 0, none⟩) (N + 1) c3))
            have HG4 : Hid ((w3.setCell ⟨r, 0, none⟩ (.slice (some ⟨g3, 0, none⟩) (N + 1) c3)).heap[r]? = some (.cells #[.slice (some ⟨g3, 0, none⟩) (N + 1) c3, .int .i64 (o : Int)] 48 (0, 0))) := Lib.hid (by rw [setCell_get g9]; rfl)
            have hne : r ≠ g3 := by omega
            have HR4 := Lib.hid (own_keep HD3.out (fun g hg => HO4.out.block g (World.ownsRow.lt HD3.out g hg).2 (fun e => absurd (show g3 = g from by simpa [Value.ownBlock] using hg) (fun h8 => hne (e.symm.trans h8.symm)))))
            have hkN : k < (L.take k ++ [(n, 0)] ++ L.drop k).length := by rw [hl3]; omega
            have hat : (L.take k ++ [(n, 0)] ++ L.drop k)[k] = (n, 0) := by
              rw [List.getElem_append_left (by rw [List.length_append, HKL.out]; simp), List.getElem_append_right (by rw [HKL.out]; exact Nat.le_refl _)]; simp
            have z1 : w3.cell? ⟨g3, k * 2 + 1, none⟩ = some (.int .i64 0) := by
              have h8 := World.ownsRow.cellAt HD3.out (k * 2 + 1) (by omega)
              rw [h8, (oftF_get _ k hkN).2, hat]; rfl
            have z2 := World.ownsRow.frozenAt HD3.out (k * 2 + 1)
            have HS5 := Lib.hid (World.ownsRow.stored HR4.out (k * 2 + 1) (.int .i64 1))
            have HO5 := Lib.hid (Only.set (w3.setCell ⟨r, 0, none⟩ (.slice (some ⟨g3, 0, none⟩) (N + 1) c3)) g3 (k * 2 + 1) (.int .i64 1))
            have HG5 := Lib.hid (HO5.out.get HG4.out hne)
            have HL5 : Hid ((oftF (L.take k ++ [(n, 0)] ++ L.drop k)).set (k * 2 + 1) (.int .i64 1) = oftF (L.take k ++ (n, 1) :: L.drop k)) := Lib.hid (by
              have h8 := oftF_set (L.take k ++ [(n, 0)] ++ L.drop k) k n 1 hkN (by rw [hat])
              have h9 : (L.take k ++ [(n, 0)] ++ L.drop k).set k (n, 1) = L.take k ++ (n, 1) :: L.drop k := by
                rw [List.append_assoc, List.set_append_right _ _ (by rw [HKL.out]; exact Nat.le_refl _), HKL.out]; simp
              rw [h9] at h8; exact h8)
            have hk1 : k < N + 1 := by omega
            have hne2 : ¬ g3 = r := fun e => hne e.symm
            have HGR := Lib.hid hg3
            have HRW := Lib.hid hrw2
            clear hat hkN hc hd g9 hl3
            try simp only [List.drop_succ_cons, List.drop_zero]
            go_wp2_with fail
            go_ret
            refine ⟨rfl, RfG.fresh (w2 := w2) H0r.out.1 H0r.out.2 HB2.out HG5.out ?_ ?_⟩
            · have h8 := HS5.out.1
              rw [HL5.out] at h8
              have h9 : (L.take k ++ (n, 1) :: L.drop k).length = N + 1 := by rw [List.length_append, List.length_cons, HKL.out, HDL.out]; omega
              rw [h9]; exact h8
            · exact ((Only.of_below (S := fun i => i = r) HB3.out).then HO4.out (fun _ _ e => e)).then HO5.out (fun i hi e => by have := HGR.out; omega)
          · exact wf_stop
        · exact wf_stop
      · exact wf_stop
  · skip
    refine wf_step (fun _ => Triv) (fun v W => (Triv) W ∧ DN n v W) (fun _ _ _ _ _ => triv _) (fun v => Stab.and (Triv.stab) (DN.stab n v)) rfl rfl (fun w' hc hd => ?_) (fun K hK v12 => ?_) ?_
    focus
      have HC : Hid (Below w2.heap.size w2 w') := Lib.hid (by first | exact hc | exact hc.1 | exact hc.1.1 | exact hc.1.1.1 | exact hc.1.1.1.1 | exact hc.1.1.1.1.1)
      have HDD := Lib.hid hd
      clear hc hd
      go_simp
      have hb : Below w2.heap.size w2 _ := HC.out.trans ((below_alloc (Below.refl w'.heap.size w') (.cells #[.int .i64 n, .int .i64 0] 34)).mono HC.out.size)
      exact ⟨by first | exact hb | exact ⟨hb, triv _⟩ | exact ⟨⟨hb, triv _⟩, triv _⟩ | exact ⟨⟨⟨hb, triv _⟩, triv _⟩, triv _⟩ | exact ⟨⟨⟨⟨hb, triv _⟩, triv _⟩, triv _⟩, triv _⟩, triv _, (Triv.stab) _ _ HDD.out (below_alloc (Below.refl _ _) _), ⟨_, rfl, newB _ _⟩⟩
    · skip
      simp only [Act.put, List.setIfInBounds_toArray, List.set_cons_zero, List.set_cons_succ]
      refine hK.out _ _ _ ?_
      clear hK K
      refine wf_step (fun _ => Triv) (fun v W => DE w2.heap.size v W ∧ (fun W => Triv W ∧ DN n v12 W) W) (fun _ _ _ _ _ => triv _) (fun v => Stab.and (DE.stab _ v) (Stab.and Triv.stab (DN.stab n v12))) rfl rfl (fun w' hc hd => ?_) (fun K hK v1 => ?_) ?_
      focus
        have HC : Hid (Below w2.heap.size w2 w') := Lib.hid (by first | exact hc | exact hc.1 | exact hc.1.1 | exact hc.1.1.1 | exact hc.1.1.1.1 | exact hc.1.1.1.1.1)
        have HDD := Lib.hid hd
        clear hc hd
        go_simp
        have hb : Below w2.heap.size w2 _ := HC.out.trans ((below_alloc (Below.refl w'.heap.size w') (.cells #[] 34)).mono HC.out.size)
        exact ⟨by first | exact hb | exact ⟨hb, triv _⟩ | exact ⟨⟨hb, triv _⟩, triv _⟩ | exact ⟨⟨⟨hb, triv _⟩, triv _⟩, triv _⟩ | exact ⟨⟨⟨⟨hb, triv _⟩, triv _⟩, triv _⟩, triv _⟩, triv _, ⟨_, rfl, HC.out.size, newB _ _⟩, (Stab.and Triv.stab (DN.stab n v12)) _ _ HDD.out (below_alloc (Below.refl _ _) _)⟩
      · skip
        simp only [Act.put, List.setIfInBounds_toArray, List.set_cons_zero, List.set_cons_succ]
        refine hK.out _ _ _ ?_
        clear hK K
        refine wf_step (fun _ => Triv) (fun v W => RowN w2.heap.size v (L.take k) W ∧ (fun W => Triv W ∧ DN n v12 W) W) (fun _ _ _ _ _ => triv _) (fun v => Stab.and (RowN.stab _ _ v) (Stab.and Triv.stab (DN.stab n v12))) rfl rfl (fun w' hc hd => ?_) (fun K hK v8 => ?_) ?_
        focus
          have hcb : Below w2.heap.size w2 w' := (by first | exact hc | exact hc.1 | exact hc.1.1 | exact hc.1.1.1 | exact hc.1.1.1.1 | exact hc.1.1.1.1.1)
          exact ap_empty (.tmp 32) (.tmp 38) rfl rfl rfl HKL.out.symm hd.1 hd.2 (KeepE.and KeepE.triv (KeepE.dn n v12)) hcb hcb.size (HT.out _ hcb) (by rw [HKL.out]; omega) (fun W' hb => by first | exact hb | exact ⟨hb, triv _⟩ | exact ⟨⟨hb, triv _⟩, triv _⟩ | exact ⟨⟨⟨hb, triv _⟩, triv _⟩, triv _⟩ | exact ⟨⟨⟨⟨hb, triv _⟩, triv _⟩, triv _⟩, triv _⟩)
        · skip
          simp only [Act.put, List.setIfInBounds_toArray, List.set_cons_zero, List.set_cons_succ]
          refine hK.out _ _ _ ?_
          clear hK K
          refine wf_step (fun _ => Triv) (fun v W => RowN w2.heap.size v (L.take k ++ [(n, 0)]) W) (fun _ _ _ _ _ => triv _) (fun v => RowN.stab _ _ v) rfl rfl (fun w' hc hd => ?_) (fun K hK v13 => ?_) ?_
          focus
            have hcb : Below w2.heap.size w2 w' := (by first | exact hc | exact hc.1 | exact hc.1.1 | exact hc.1.1.1 | exact hc.1.1.1.1 | exact hc.1.1.1.1.1)
            obtain ⟨H, rfl, hH⟩ := hd.2.2
            exact ap_own (M := [(n, 0)]) (.tmp 39) (.tmp 43) rfl rfl rfl rfl hd.1 hcb hcb.size ⟨w'.heap.size, rfl, fun _ => ⟨_, rfl, only_lt hH, World.news_of_block hH⟩⟩ (by rw [HKL.out]; simp; omega) (fun W' hb _ => by first | exact hb | exact ⟨hb, triv _⟩ | exact ⟨⟨hb, triv _⟩, triv _⟩ | exact ⟨⟨⟨hb, triv _⟩, triv _⟩, triv _⟩ | exact ⟨⟨⟨⟨hb, triv _⟩, triv _⟩, triv _⟩, triv _⟩)
          · skip
            simp only [Act.put, List.setIfInBounds_toArray, List.set_cons_zero, List.set_cons_succ]
            refine hK.out _ _ _ ?_
            clear hK K
            refine wf_step (fun _ => Triv) (fun v W => RowN w2.heap.size v (L.take k ++ [(n, 0)] ++ L.drop k) W) (fun _ _ _ _ _ => triv _) (fun v => RowN.stab _ _ v) rfl rfl (fun w' hc hd => ?_) (fun K hK v20 => ?_) wf_stop
            focus
              have hcb : Below w2.heap.size w2 w' := (by first | exact hc | exact hc.1 | exact hc.1.1 | exact hc.1.1.1 | exact hc.1.1.1.1 | exact hc.1.1.1.1.1)
              exact ap_own (M := L.drop k) (.tmp 44) (.tmp 50) rfl rfl rfl HDL.out.symm hd hcb hcb.size (HD.out _ hcb) (by rw [List.length_append, HKL.out, HDL.out]; simp; omega) (fun W' hb _ => by first | exact hb | exact ⟨hb, triv _⟩ | exact ⟨⟨hb, triv _⟩, triv _⟩ | exact ⟨⟨⟨hb, triv _⟩, triv _⟩, triv _⟩ | exact ⟨⟨⟨⟨hb, triv _⟩, triv _⟩, triv _⟩, triv _⟩)
            simp only [Act.put, List.setIfInBounds_toArray, List.set_cons_zero, List.set_cons_succ]
            refine hK.out _ _ _ ?_
            clear hK K
            refine wf_nil ?_
            rintro w3 hc hd
            have HB3 : Hid (Below w2.heap.size w2 w3) := Lib.hid (by first | exact hc | exact hc.1 | exact hc.1.1 | exact hc.1.1.1 | exact hc.1.1.1.1 | exact hc.1.1.1.1.1)
            have hl3 : (L.take k ++ [(n, 0)] ++ L.drop k).length = N + 1 := by rw [List.length_append, List.length_append, HKL.out, HDL.out]; simp; omega
            obtain ⟨A3, c3, rfl⟩ := ownsRow_form (show w3.ownsRow w2.heap.size 34 2 v20 _ _ from hd)
            obtain ⟨g3, rfl⟩ := ownsRow_at (show w3.ownsRow w2.heap.size 34 2 _ _ _ from hd) (by rw [hl3]; omega)
            have hg3 := (World.ownsRow.lt (show w3.ownsRow w2.heap.size 34 2 _ _ _ from hd) g3 rfl).1
            have HD3 : Hid (w3.ownsRow w2.heap.size 34 2 (.slice (some ⟨g3, 0, none⟩) (N + 1) c3) (N + 1) (oftF (L.take k ++ [(n, 0)] ++ L.drop k))) := Lib.hid (by rw [← hl3]; exact hd)
            rw [hl3]
            have hrw2 := only_lt HG1.out
            have g9 := keepB HG1.out HB3.out
            have q0 := cellAt (o := 0) g9 rfl
            have f0 := freeAt 0 g9
            have HO4 := Lib.hid (Only.set w3 r 0 (.slice (some ⟨g3, 0, none⟩) (N + 1) c3))
            have HG4 : Hid ((w3.setCell ⟨r, 0, none⟩ (.slice (some ⟨g3, 0, none⟩) (N + 1) c3)).heap[r]? = some (.cells #[.slice (some ⟨g3, 0, none⟩) (N + 1) c3, .int .i64 (o : Int)] 48 (0, 0))) := Lib.hid (by rw [setCell_get g9]; rfl)
            have hne : r ≠ g3 := by omega
            have HR4 := Lib.hid (own_keep HD3.out (fun g hg => HO4.out.block g (World.ownsRow.lt HD3.out g hg).2 (fun e => absurd (show g3 = g from by simpa [Value.ownBlock] using hg) (fun h8 => hne (e.symm.trans h8.symm)))))
            have hkN : k < (L.take k ++ [(n, 0)] ++ L.drop k).length := by rw [hl3]; omega
            have hat : (L.take k ++ [(n, 0)] ++ L.drop k)[k] = (n, 0) := by
              rw [List.getElem_append_left (by rw [List.length_append, HKL.out]; simp), List.getElem_append_right (by rw [HKL.out]; exact Nat.le_refl _)]; simp
            have z1 : w3.cell? ⟨g3, k * 2 + 1, none⟩ = some (.int .i64 0) := by
              have h8 := World.ownsRow.cellAt HD3.out (k * 2 + 1) (by omega)
              rw [h8, (oftF_get _ k hkN).2, hat]; rfl
            have z2 := World.ownsRow.frozenAt HD3.out (k * 2 + 1)
            have HS5 := Lib.hid (World.ownsRow.stored HR4.out (k * 2 + 1) (.int .i64 1))
            have HO5 := Lib.hid (Only.set (w3.setCell ⟨r, 0, none⟩ (.slice (some ⟨g3, 0, none⟩) (N + 1) c3)) g3 (k * 2 + 1) (.int .i64 1))
            have HG5 := Lib.hid (HO5.out.get HG4.out hne)
            have HL5 : Hid ((oftF (L.take k ++ [(n, 0)] ++ L.drop k)).set (k * 2 + 1) (.int .i64 1) = oftF (L.take k ++ (n, 1) :: L.drop k)) := Lib.hid (by
              have h8 := oftF_set (L.take k ++ [(n, 0)] ++ L.drop k) k n 1 hkN (by rw [hat])
              have h9 : (L.take k ++ [(n, 0)] ++ L.drop k).set k (n, 1) = L.take k ++ (n, 1) :: L.drop k := by
                rw [List.append_assoc, List.set_append_right _ _ (by rw [HKL.out]; exact Nat.le_refl _), HKL.out]; simp
              rw [h9] at h8; exact h8)
            have hk1 : k < N + 1 := by omega
            have hne2 : ¬ g3 = r := fun e => hne e.symm
            have HGR := Lib.hid hg3
            have HRW := Lib.hid hrw2
            clear hat hkN hc hd g9 hl3
            try simp only [List.drop_succ_cons, List.drop_zero]
            go_wp2_with fail
            go_ret
            refine ⟨rfl, RfG.fresh (w2 := w2) H0r.out.1 H0r.out.2 HB2.out HG5.out ?_ ?_⟩
            · have h8 := HS5.out.1
              rw [HL5.out] at h8
              have h9 : (L.take k ++ (n, 1) :: L.drop k).length = N + 1 := by rw [List.length_append, List.length_cons, HKL.out, HDL.out]; omega
              rw [h9]; exact h8
            · exact ((Only.of_below (S := fun i => i = r) HB3.out).then HO4.out (fun _ _ e => e)).then HO5.out (fun i hi e => by have := HGR.out; omega)
          · exact wf_stop
        · exact wf_stop
      · exact wf_stop
    · exact wf_stop
theorem RfG.inplace {w w2 : World} {G : Nat → Prop} {r o g N cap k j : Nat} {n : Int} {L : List (Int × Nat)} (h : RfB w G r L o) (hb : Below w.heap.size w w2)
    (hc : w2.heap[r]? = some (.cells #[.slice (some ⟨g, 0, none⟩) N cap, .int .i64 (o : Int)] 48 (0, 0))) (hk : k < L.length) (hn : L[k].1 = n) :
    RfG w G r (L.set k (n, j)) o (w2.setCell ⟨g, k * 2 + 1, none⟩ (.int .i64 (j : Int))) := by
  obtain ⟨h1, v, h2, h3, h4⟩ := (h.below hb).old
  rw [h2] at hc
  simp only [Option.some.injEq, Obj.cells.injEq, Array.mk.injEq, List.cons.injEq, and_true] at hc
  obtain rfl := hc
  obtain ⟨h5, h6⟩ := h4 g rfl
  obtain ⟨rfl, _⟩ := ownsRow_cap h3
  have hs := (World.ownsRow.stored h3 (k * 2 + 1) (.int .i64 (j : Int))).1
  rw [oftF_set L k n j hk hn] at hs
  have ho := Only.set w2 g (k * 2 + 1) (.int .i64 (j : Int))
  refine ⟨_, ⟨h1, _, ho.get h2 (fun e => h6 e.symm), by rw [List.length_set]; exact hs, fun i hi => h4 i hi⟩, fun i hi => ⟨.inl hi.1, Nat.lt_of_lt_of_le hi.2 ho.size⟩, (Only.of_below hb).then ho (fun i _ e => e ▸ h5.1)⟩
set_option maxHeartbeats 4000000 in
set_option maxRecDepth 100000 in
theorem rput_has (n : Int) (h : RfB w G r L o) (hok : OkL L) (hi : isL n L = true) (hb : sumL L ≤ 100000) : Calls Try.prog 19 #[.pointer (some ⟨r, 0, none⟩), .agg #[.int .i64 n, .bool false]] w fun e w' => e = .returned (.int .i64 0) ∧ RfG w G r (insL n 1 L) o w' := by
  have hk := at_lt hi
  have hn := at_eq hi hk
  have hlen := len_sumL hok.one
  have hjs := mem_sumL (List.getElem_mem hk)
  rw [(at_some hok.asc hi hk).2.1]
  obtain ⟨j, hj⟩ : ∃ j, L[atL n L].2 = j := ⟨_, rfl⟩
  rw [hj] at hjs ⊢
  obtain ⟨k, hkk⟩ : ∃ k, atL n L = k := ⟨_, rfl⟩
  have HK := Lib.hid hkk
  have HI := Lib.hid hi
  have HLk : Hid (∃ hk : k < L.length, L[k].1 = n ∧ L[k].2 = j) := Lib.hid (by subst hkk; exact ⟨hk, hn, hj⟩)
  rw [hkk] at hk ⊢
  have hw : IntKind.i64.wrap ((j : Int) + 1) = ((j + 1 : Nat) : Int) := by rw [IntKind.wrap_i64]; omega
  clear hkk hi hn hj
  have HB := Lib.hid (below_alloc (Below.refl w.heap.size w) (Obj.cells #[.int .i64 (n), .bool false] 29))
  have HX := Lib.hid (newB w (Obj.cells #[.int .i64 (n), .bool false] 29))
  have H0 := Lib.hid h
  have H := Lib.hid (h.below HB.out)
  have c0 := cellAt (o := 0) HX.out rfl
  have c1 := cellAt (o := 1) HX.out rfl
  clear h
  go_enter Try.func19, Try.ntmps19
  go_wp2_with fail
  refine (rcheck_ok n false (.inl rfl) _).mono ?_
  rintro e w1 ⟨rfl, hb1⟩
  have HB1 := Lib.hid (HB.out.trans (hb1.mono HB.out.size))
  have HX1 := Lib.hid (keepB HX.out hb1)
  have H1 := Lib.hid (H.out.below hb1)
  clear hb1 c0 c1
  have c0 := cellAt (o := 0) HX1.out rfl
  have c1 := cellAt (o := 1) HX1.out rfl
  have CA := Lib.hid (rat_any n H1.out (by omega))
  rw [HI.out, HK.out] at CA
  go_wp2_with fail
  refine CA.out.mono ?_
  rintro e w2 ⟨rfl, hb2⟩
  have HB2 := Lib.hid (HB1.out.trans (hb2.mono HB1.out.size))
  have H2 := Lib.hid (H1.out.below hb2)
  clear hb2 c0 c1 CA
  obtain ⟨A, cap, g1, g2⟩ := H2.out.open
  obtain ⟨g, rfl⟩ := ownsRow_at g2 (by omega)
  obtain ⟨hkL, hkn, hkj⟩ := HLk.out
  have z1 : w2.cell? ⟨g, k * 2 + 1, none⟩ = some (.int .i64 (j : Int)) := by rw [(oft_cell g2 hkL).2, hkj]
  have z2 := World.ownsRow.frozenAt g2 (k * 2 + 1)
  obtain ⟨N, hN⟩ : ∃ N, L.length = N := ⟨_, rfl⟩
  rw [hN] at g1 hk
  have HG1 := Lib.hid g1
  have q0 := cellAt (o := 0) g1 rfl
  clear g1 g2 hN hkL hkn hkj
  go_wp2_with fail
  go_ret
  obtain ⟨hkL, hkn, hkj⟩ := HLk.out
  exact ⟨rfl, RfG.inplace H0.out HB2.out HG1.out hkL hkn⟩
theorem rput_any (n : Int) (ov : Bool) (h : RfB w G r L o) (hok : OkL L) (hb : o + sumL L ≤ 100000) :
    Calls Try.prog 19 #[.pointer (some ⟨r, 0, none⟩), .agg #[.int .i64 n, .bool ov]] w fun e w' => e = .returned (.int .i64 (chk n ov)) ∧ RfG w G r (putLs n ov L o).1 (putLs n ov L o).2 w' := by
  unfold putLs chk
  cases ov
  · have hlen := len_sumL hok.one
    cases hi : isL n L with
    | false => simpa using rput_new n h hok hi (by omega)
    | true => simpa using rput_has n h hok hi (by omega)
  · by_cases hn : n = 0
    · subst hn; simpa using rput_over h (by omega)
    · simpa [hn] using rput_bad n hn h
end
end Go.Proofs.Ytjcbikkihijkiaa
