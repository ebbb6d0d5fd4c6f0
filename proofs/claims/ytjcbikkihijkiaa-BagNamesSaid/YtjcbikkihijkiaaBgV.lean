/- A bag's tree: level. -/
import Derived.Test.YtjcbikkihijkiaaBgT
namespace Go.Proofs.Ytjcbikkihijkiaa
open Go.RowKit
/-- A tree whose root may tell old counts. -/
def TreeS (w : World) (F : Nat → Prop) (p : Option Nat) : Tr → Prop
  | .nil => p = none
  | .node n k l r => ∃ b pl pr Fl Fr a v, p = some b ∧ F b ∧ NodeW w b n k a v pl pr ∧ TreeW w Fl pl l ∧ TreeW w Fr pr r ∧ (∀ k, Fl k → F k ∧ k ≠ b) ∧ (∀ k, Fr k → F k ∧ k ≠ b) ∧ ∀ k, ¬ (Fl k ∧ Fr k)
theorem TreeW.stale {w : World} {F : Nat → Prop} {p : Option Nat} : ∀ {T : Tr}, TreeW w F p T → TreeS w F p T
  | .nil, h => h
  | .node _ _ _ _, ⟨b, pl, pr, Fl, Fr, h1, h2, h3, h⟩ => ⟨b, pl, pr, Fl, Fr, _, _, h1, h2, h3, h⟩
theorem TreeS.below {w w' : World} {F : Nat → Prop} {p : Option Nat} : ∀ {T : Tr}, TreeS w F p T → Below w.heap.size w w' → TreeS w' F p T
  | .nil, h, _ => h
  | .node _ _ _ _, ⟨b, pl, pr, Fl, Fr, a, v, h1, h2, h3, h4, h5, h6⟩, hb => ⟨b, pl, pr, Fl, Fr, a, v, h1, h2, keepB h3 hb, h4.below hb, h5.below hb, h6⟩
def LevP (w : World) (a off : Nat) (cs : Array Value) (t : TypeId) (F : Nat → Prop) (T : Tr) (e : Ending) (w' : World) : Prop :=
  e = .returned (.tuple #[]) ∧ ∃ p', w'.heap[a]? = some (.cells (cs.setIfInBounds off (pv p')) t (0, 0)) ∧ TreeW w' F p' T ∧ Only (fun i => i = a ∨ F i) w w'
section
variable {w : World} {a off : Nat} {cs : Array Value} {t : TypeId} {F : Nat → Prop} {p : Option Nat}
theorem lift_l {n m : Int} {k j : Nat} {A B R : Tr} (h : w.heap[a]? = some (.cells cs t (0, 0))) (hc : cs[off]? = some (pv p)) (hT : TreeS w F p (.node n k (.node m j A B) R)) (na : ∀ i, F i → i ≠ a)
    (h1 : (Tr.node n k (.node m j A B) R).all ≤ 1099511627776) (h2 : (Tr.node n k (.node m j A B) R).cnt ≤ 1099511627776) :
    Calls Try.prog 68 #[.agg #[.pointer (some ⟨a, off, none⟩)], .bool true] w (LevP w a off cs t F (turnL (.node n k (.node m j A B) R))) := by
  obtain ⟨x, pl, pr, Fl, Fr, a1, v1, rfl, hF, hx, tl, tr, nl, nr, hd⟩ := hT
  obtain ⟨y, pa, pb, Fa, Fb, rfl, hy0, hy, ta, tb, ma, mb, hab⟩ := tl
  have hxy : x ≠ y := Ne.symm (nl y hy0).2
  refine (turn_l h hc hx hy ta tb tr (Ne.symm (na x hF)) (Ne.symm (na y (nl y hy0).1)) hxy
    (fun i hi => ⟨na i (nl i (ma i hi).1).1, (nl i (ma i hi).1).2, (ma i hi).2⟩) (fun i hi => ⟨na i (nl i (mb i hi).1).1, (nl i (mb i hi).1).2, (mb i hi).2⟩) (fun i hi => ⟨na i (nr i hi).1, (nr i hi).2, fun e => hd y ⟨hy0, e ▸ hi⟩⟩)
    hab (fun i hi => hd i ⟨(ma i hi.1).1, hi.2⟩) (fun i hi => hd i ⟨(mb i hi.1).1, hi.2⟩) (by simp only [Tr.all] at h1 ⊢; omega) (by simp only [Tr.cnt] at h2 ⊢; omega)).mono fun e w' ⟨he, g1, g2, g3⟩ => ?_
  refine ⟨he, some y, g1, g2.weak (fun i hi => ?_), g3.mono (fun i _ hi => ?_)⟩
  · rcases hi with rfl | rfl | h | h | h
    · exact hF
    · exact (nl _ hy0).1
    · exact (nl i (ma i h).1).1
    · exact (nl i (mb i h).1).1
    · exact (nr i h).1
  · rcases hi with rfl | rfl | rfl
    · exact .inl rfl
    · exact .inr hF
    · exact .inr (nl _ hy0).1
theorem lift_r {n m : Int} {k j : Nat} {A B L : Tr} (h : w.heap[a]? = some (.cells cs t (0, 0))) (hc : cs[off]? = some (pv p)) (hT : TreeS w F p (.node n k L (.node m j A B))) (na : ∀ i, F i → i ≠ a)
    (h1 : (Tr.node n k L (.node m j A B)).all ≤ 1099511627776) (h2 : (Tr.node n k L (.node m j A B)).cnt ≤ 1099511627776) :
    Calls Try.prog 68 #[.agg #[.pointer (some ⟨a, off, none⟩)], .bool false] w (LevP w a off cs t F (turnR (.node n k L (.node m j A B)))) := by
  obtain ⟨x, pl, pr, Fl, Fr, a1, v1, rfl, hF, hx, tl, tr, nl, nr, hd⟩ := hT
  obtain ⟨y, pa, pb, Fa, Fb, rfl, hy0, hy, ta, tb, ma, mb, hab⟩ := tr
  have hxy : x ≠ y := Ne.symm (nr y hy0).2
  refine (turn_r h hc hx hy ta tb tl (Ne.symm (na x hF)) (Ne.symm (na y (nr y hy0).1)) hxy
    (fun i hi => ⟨na i (nr i (ma i hi).1).1, (nr i (ma i hi).1).2, (ma i hi).2⟩) (fun i hi => ⟨na i (nr i (mb i hi).1).1, (nr i (mb i hi).1).2, (mb i hi).2⟩) (fun i hi => ⟨na i (nl i hi).1, (nl i hi).2, fun e => hd y ⟨e ▸ hi, hy0⟩⟩)
    hab (fun i hi => hd i ⟨hi.1, (ma i hi.2).1⟩) (fun i hi => hd i ⟨hi.1, (mb i hi.2).1⟩) (by simp only [Tr.all] at h1 ⊢; omega) (by simp only [Tr.cnt] at h2 ⊢; omega)).mono fun e w' ⟨he, g1, g2, g3⟩ => ?_
  refine ⟨he, some y, g1, g2.weak (fun i hi => ?_), g3.mono (fun i _ hi => ?_)⟩
  · rcases hi with rfl | rfl | h | h | h
    · exact hF
    · exact (nr _ hy0).1
    · exact (nr i (ma i h).1).1
    · exact (nr i (mb i h).1).1
    · exact (nl i h).1
  · rcases hi with rfl | rfl | rfl
    · exact .inl rfl
    · exact .inr hF
    · exact .inr (nr _ hy0).1
theorem set_same {cs : Array Value} {off : Nat} {v : Value} (h : cs[off]? = some v) : cs.setIfInBounds off v = cs := by
  apply Array.ext_getElem?
  intro i
  rw [Array.getElem?_setIfInBounds]
  split
  · rename_i e
    subst e
    split
    · exact h.symm
    · rename_i hn
      rw [Array.getElem?_eq_none (by omega)] at h; cases h
  · rfl
theorem Only.trans_or {w w' w'' : World} {F : Nat → Prop} {a : Nat} (h : Only F w w') (k : Only (fun i => i = a ∨ F i) w' w'') : Only (fun i => i = a ∨ F i) w w'' := (h.mono (fun _ _ h => .inr h)).trans k
set_option maxHeartbeats 8000000 in
set_option maxRecDepth 100000 in
theorem level_any {T : Tr} (h : w.heap[a]? = some (.cells cs t (0, 0))) (hc : cs[off]? = some (pv p)) (hT : TreeS w F p T) (na : ∀ i, F i → i ≠ a) (hFs : ∀ i, F i → i < w.heap.size) (h1 : T.all ≤ 1099511627776) (h2 : T.cnt ≤ 1099511627776) :
    Calls Try.prog 53 #[.agg #[.pointer (some ⟨a, off, none⟩)]] w (LevP w a off cs t F (levT T)) := by
  have hb0 := below_alloc (Below.refl w.heap.size w) (.cells #[.pointer (some ⟨a, off, none⟩)] 61)
  have HT0 := Lib.hid (newB w (.cells #[.pointer (some ⟨a, off, none⟩)] 61))
  have HA := Lib.hid (keepB h hb0)
  have HB0 := Lib.hid hb0
  have HZ : Hid (a < w.heap.size) := Lib.hid (only_lt h)
  have c0 := cellAt (o := 0) HT0.out rfl
  have ca := cellAt HA.out hc
  cases T with
  | nil =>
    obtain rfl : p = none := hT
    unfold pv pq at ca
    have HE : Hid (cs.setIfInBounds off (pv none) = cs) := Lib.hid (set_same hc)
    clear h hb0
    go_enter Try.func53, Try.ntmps53
    go_wp2_with fail
    refine bodyPost_ret (v := .tuple #[]) (by simp only [results, Try.results53]; go_simp) rfl ⟨rfl, none, by rw [HE.out]; exact HA.out, rfl, Only.of_below HB0.out⟩
  | node n k l r =>
    obtain ⟨b, pl, pr, Fl, Fr, a1, v1, rfl, hF, hx0, tl, tr, nl, nr, hd⟩ := hT
    have HBb := Lib.hid (only_lt hx0)
    have hx : NodeW (w.alloc (.cells #[.pointer (some ⟨a, off, none⟩)] 61)) b n k a1 v1 pl pr := keepB hx0 hb0
    have HNL := Lib.hid nl
    have HNR := Lib.hid nr
    have HD := Lib.hid hd
    have HFb := Lib.hid hF
    have TL := Lib.hid (tl.below hb0)
    have TR := Lib.hid (tr.below hb0)
    have CT := Lib.hid (tell_any hx TL.out TR.out (fun h => (nl b h).2 rfl) (fun h => (nr b h).2 rfl) h1 h2)
    unfold pv pq at ca
    simp only [] at ca
    clear h hb0 hx hx0 tl tr nl nr hd hF
    go_enter Try.func53, Try.ntmps53
    go_wp2_with fail
    refine CT.out.mono ?_
    rintro e w2 ⟨rfl, hn2, ho2⟩
    have HN2 := Lib.hid hn2
    have TL2 := Lib.hid (TL.out.keep ho2 (fun i hi _ e => (HNL.out i hi).2 e))
    have TR2 := Lib.hid (TR.out.keep ho2 (fun i hi _ e => (HNR.out i hi).2 e))
    have hab : a ≠ b := Ne.symm (na b HFb.out)
    have HA2 := Lib.hid (ho2.get HA.out hab)
    have HT2 := Lib.hid (ho2.get HT0.out (fun e => by have := HBb.out; omega))
    have HO2 : Hid (Only (fun i => i = b) w w2) := Lib.hid ((Only.of_below HB0.out).trans ho2)
    have TT2 : Hid (TreeW w2 F (some b) (.node n k l r)) := Lib.hid ⟨b, pl, pr, Fl, Fr, rfl, HFb.out, hn2, TL2.out, TR2.out, HNL.out, HNR.out, HD.out⟩
    clear hn2 ho2 c0 ca CT TL TR HA HT0 HB0
    have VL := Lib.hid (fun W (hb : TreeW W Fl pl l) => quiet_same (high_any hb))
    have VR := Lib.hid (fun W (hb : TreeW W Fr pr r) => quiet_same (high_any hb))
    have hlv := Tr.lev_cnt (Tr.node n k l r)
    have hy : l.lev ≤ 1099511627776 ∧ r.lev ≤ 1099511627776 := by simp only [Tr.lev] at hlv; omega
    obtain ⟨lv, hlv'⟩ : ∃ x, l.lev = x := ⟨_, rfl⟩
    obtain ⟨rv, hrv⟩ : ∃ x, r.lev = x := ⟨_, rfl⟩
    have LL := Lib.hid hlv'
    have RR := Lib.hid hrv
    rw [hlv'] at VL hy
    rw [hrv] at VR hy
    clear hlv hlv' hrv
    have hsub : IntKind.i64.wrap ((lv : Int) - (rv : Int)) = (lv : Int) - rv := by rw [IntKind.wrap_i64]; omega
    go_wp2_with fail
    refine wp_region_here 11 [(0, false), (1, false), (2, false), (3, false), (4, false), (5, false), (6, false), (7, false), (8, false), (9, false), (10, false)] (fun _ => .cells #[] 0) (by kernel_rfl) (by kernel_rfl) ?_
    repeat (first | (refine wpP_q rfl rfl rfl ?_; apply Exists.intro; refine ⟨fun w' hw' => ?_, fun K hK => ?_⟩; (focus ((have q0 := keepB (show w2.heap[b]? = _ from HN2.out) hw'; have j4 := cellAt (o := 4) q0 rfl; have j5 := cellAt (o := 5) q0 rfl; clear q0); go_simp; first | exact quiet_value | first | with_reducible exact quiet_enter (VL.out _ (TL2.out.below hw')) | with_reducible exact quiet_enter (VR.out _ (TR2.out.below hw')))); simp only [Act.put, List.setIfInBounds_toArray, List.set_cons_zero, List.set_cons_succ]; refine hK.out _ ?_; clear hK K) | (refine wpP_skip rfl rfl rfl (fun K hK => ?_); simp only [Act.put, List.setIfInBounds_toArray, List.set_cons_zero, List.set_cons_succ]; refine hK.out _ ?_; clear hK K))
    refine wpP_nil ?_
    intro w3 hb3
    have HN3 : Hid (w3.heap[b]? = _) := Lib.hid (keepB (show w2.heap[b]? = _ from HN2.out) hb3)
    have TT3 := Lib.hid (TT2.out.below hb3)
    have TL3 := Lib.hid (TL2.out.below hb3)
    have TR3 := Lib.hid (TR2.out.below hb3)
    have HA3 := Lib.hid (keepB HA2.out hb3)
    have HT3 := Lib.hid (keepB HT2.out hb3)
    have HO3 := Lib.hid (HO2.out.trans (Only.of_below hb3))
    clear hb3 HN2 TL2 TR2 HA2 HT2 HO2 TT2 VL VR hsub
    try simp only [List.drop_succ_cons, List.drop_zero]
    by_cases hd1 : (1 : Int) < (lv : Int) - (rv : Int)
    case pos =>
      cases l with
      | nil => have := LL.out; simp only [Tr.lev] at this; omega
      | node m j A B =>
        obtain ⟨y, pa, pb, Fa, Fb, rfl, hy0, hyn, ta, tb, _⟩ := TL3.out
        have HYN : Hid (w3.heap[y]? = _) := Lib.hid hyn
        have TA := Lib.hid ta
        have TB := Lib.hid tb
        have VA := Lib.hid (fun W (hb : TreeW W Fa pa A) => quiet_same (high_any hb))
        have VB := Lib.hid (fun W (hb : TreeW W Fb pb B) => quiet_same (high_any hb))
        have HBD : Hid ((Tr.node n k (.node m j A B) r).all ≤ 1099511627776 ∧ (Tr.node n k (.node m j A B) r).cnt ≤ 1099511627776) := Lib.hid ⟨h1, h2⟩
        clear hyn ta tb h1 h2
        by_cases hAB : (A.lev : Int) < (B.lev : Int)
        case pos =>
          have HAB : Hid (A.lev < B.lev) := Lib.hid (by omega)
          go_wp2_with fail
          refine wp_region_here 17 [(0, false), (1, false), (2, false), (3, false), (4, false), (5, false), (6, false), (7, false), (8, false), (9, false), (10, false), (11, false), (12, false), (13, false), (14, false), (15, false), (16, false)] (fun _ => .cells #[] 0) (by kernel_rfl) (by kernel_rfl) ?_
          repeat (first | (refine wpP_q rfl rfl rfl ?_; apply Exists.intro; refine ⟨fun w' hw' => ?_, fun K hK => ?_⟩; (focus ((have q0 := keepB HN3.out hw'; have q1 := keepB HYN.out hw'; have j4 := cellAt (o := 4) q0 rfl; have i4 := cellAt (o := 4) q1 rfl; have i5 := cellAt (o := 5) q1 rfl; clear q0 q1; unfold pv pq at j4; simp only [] at j4); go_simp; first | exact quiet_value | first | with_reducible exact quiet_enter (VA.out _ (TA.out.below hw')) | with_reducible exact quiet_enter (VB.out _ (TB.out.below hw')))); simp only [Act.put, List.setIfInBounds_toArray, List.set_cons_zero, List.set_cons_succ]; refine hK.out _ ?_; clear hK K) | (refine wpP_skip rfl rfl rfl (fun K hK => ?_); simp only [Act.put, List.setIfInBounds_toArray, List.set_cons_zero, List.set_cons_succ]; refine hK.out _ ?_; clear hK K))
          refine wpP_nil ?_
          intro w4 hb4
          have HN4 : Hid (w4.heap[b]? = _) := Lib.hid (keepB HN3.out hb4)
          have TT4 := Lib.hid (TT3.out.below hb4)
          have T4 := Lib.hid (TL3.out.below hb4)
          have TO4 := Lib.hid (TR3.out.below hb4)
          have HA4 := Lib.hid (keepB HA3.out hb4)
          have HT4 := Lib.hid (keepB HT3.out hb4)
          have HO4 := Lib.hid (HO3.out.trans (Only.of_below hb4))
          have j9 := cellAt (o := 4) HN4.out rfl
          unfold pv pq at j9
          simp only [] at j9
          clear hb4 HN3 TT3 TL3 TR3 HA3 HT3 HO3
          try simp only [List.drop_succ_cons, List.drop_nil]
          cases B with
          | nil => have := HAB.out; simp only [Tr.lev] at this; omega
          | node mz jz B1 B2 =>
            clear VA VB TA TB hAB
            go_wp2_with fail
            refine (lift_r (cs := _) (off := 4) HN4.out rfl T4.out.stale (fun i hi => (HNL.out i hi).2) (by have := HBD.out.1; simp only [Tr.all] at this ⊢; omega) (by have := HBD.out.2; simp only [Tr.cnt] at this ⊢; omega)).mono ?_
            rintro e w5 ⟨rfl, p5, g1, g2, g3⟩
            have T5 : Hid (TreeS w5 F (some b) (Tr.node n k (turnR (.node m j A (.node mz jz B1 B2))) r)) := Lib.hid ⟨b, p5, pr, Fl, Fr, _, _, rfl, HFb.out, g1, g2, TO4.out.keep g3 (fun i hi _ h => h.elim (HNR.out i hi).2 (fun h => HD.out i ⟨h, hi⟩)), HNL.out, HNR.out, HD.out⟩
            have HA5 := Lib.hid (g3.get HA4.out (fun h => h.elim hab (fun h => na a (HNL.out a h).1 rfl)))
            have HT5 := Lib.hid (g3.get HT4.out (fun h => h.elim (fun e => by have := HBb.out; omega) (fun h => by have := hFs _ (HNL.out _ h).1; omega)))
            have HO5 : Hid (Only F w w5) := Lib.hid ((HO4.out.mono (fun i _ e => e ▸ HFb.out)).trans (g3.mono (fun i _ h => h.elim (fun e => e ▸ HFb.out) (fun h => (HNL.out i h).1))))
            have c0 := cellAt (o := 0) HT5.out rfl
            clear g1 g2 g3 HA4 HT4 HO4 T4 TO4 HN4
            go_wp2_with fail
            refine (lift_l HA5.out hc T5.out na (by have := HBD.out.1; simp only [Tr.all] at this ⊢; omega) (by have := HBD.out.2; simp only [Tr.cnt] at this ⊢; omega)).mono ?_
            rintro e w6 ⟨rfl, p6, g1, g2, g3⟩
            have HG1 := Lib.hid g1
            have HG2 := Lib.hid g2
            have HG3 := Lib.hid (HO5.out.trans_or g3)
            have HE : Hid (levT (Tr.node n k (.node m j A (.node mz jz B1 B2)) r) = turnL (.node n k (turnR (.node m j A (.node mz jz B1 B2))) r)) := Lib.hid (by rw [levT_node]; simp only [LL.out, RR.out]; rw [if_pos (by omega)]; rw [if_pos (show (Tr.node m j A (.node mz jz B1 B2)).left.lev < (Tr.node m j A (.node mz jz B1 B2)).right.lev from HAB.out)])
            clear g1 g2 g3 c0
            go_wp2_with fail
            go_end0
            exact ⟨rfl, p6, HG1.out, by rw [HE.out]; exact HG2.out, HG3.out⟩
        case neg =>
          have HAB : Hid (¬ A.lev < B.lev) := Lib.hid (by omega)
          go_wp2_with fail
          refine wp_region_here 17 [(0, false), (1, false), (2, false), (3, false), (4, false), (5, false), (6, false), (7, false), (8, false), (9, false), (10, false), (11, false), (12, false), (13, false), (14, false), (15, false), (16, false)] (fun _ => .cells #[] 0) (by kernel_rfl) (by kernel_rfl) ?_
          repeat (first | (refine wpP_q rfl rfl rfl ?_; apply Exists.intro; refine ⟨fun w' hw' => ?_, fun K hK => ?_⟩; (focus ((have q0 := keepB HN3.out hw'; have q1 := keepB HYN.out hw'; have j4 := cellAt (o := 4) q0 rfl; have i4 := cellAt (o := 4) q1 rfl; have i5 := cellAt (o := 5) q1 rfl; clear q0 q1; unfold pv pq at j4; simp only [] at j4); go_simp; first | exact quiet_value | first | with_reducible exact quiet_enter (VA.out _ (TA.out.below hw')) | with_reducible exact quiet_enter (VB.out _ (TB.out.below hw')))); simp only [Act.put, List.setIfInBounds_toArray, List.set_cons_zero, List.set_cons_succ]; refine hK.out _ ?_; clear hK K) | (refine wpP_skip rfl rfl rfl (fun K hK => ?_); simp only [Act.put, List.setIfInBounds_toArray, List.set_cons_zero, List.set_cons_succ]; refine hK.out _ ?_; clear hK K))
          refine wpP_nil ?_
          intro w4 hb4
          have HN4 : Hid (w4.heap[b]? = _) := Lib.hid (keepB HN3.out hb4)
          have TT4 := Lib.hid (TT3.out.below hb4)
          have T4 := Lib.hid (TL3.out.below hb4)
          have TO4 := Lib.hid (TR3.out.below hb4)
          have HA4 := Lib.hid (keepB HA3.out hb4)
          have HT4 := Lib.hid (keepB HT3.out hb4)
          have HO4 := Lib.hid (HO3.out.trans (Only.of_below hb4))
          have j9 := cellAt (o := 4) HN4.out rfl
          unfold pv pq at j9
          simp only [] at j9
          clear hb4 HN3 TT3 TL3 TR3 HA3 HT3 HO3
          try simp only [List.drop_succ_cons, List.drop_nil]
          have c0 := cellAt (o := 0) HT4.out rfl
          have T5 : Hid (TreeS w4 F (some b) (Tr.node n k (.node m j A B) r)) := Lib.hid TT4.out.stale
          go_wp2_with fail
          refine (lift_l HA4.out hc T5.out na HBD.out.1 HBD.out.2).mono ?_
          rintro e w6 ⟨rfl, p6, g1, g2, g3⟩
          have HG1 := Lib.hid g1
          have HG2 := Lib.hid g2
          have HG3 := Lib.hid ((HO4.out.mono (fun i _ e => e ▸ HFb.out) : Only F w w4).trans_or g3)
          have HE : Hid (levT (Tr.node n k (.node m j A B) r) = turnL (.node n k (.node m j A B) r)) := Lib.hid (by rw [levT_node]; simp only [LL.out, RR.out]; rw [if_pos (by omega)]; rw [if_neg (show ¬ (Tr.node m j A B).left.lev < (Tr.node m j A B).right.lev from HAB.out)])
          clear g1 g2 g3 c0
          go_wp2_with fail
          go_end0
          exact ⟨rfl, p6, HG1.out, by rw [HE.out]; exact HG2.out, HG3.out⟩
    case neg =>
      by_cases hd2 : (lv : Int) - (rv : Int) < -1
      case pos =>
        cases r with
        | nil => have := RR.out; simp only [Tr.lev] at this; omega
        | node m j A B =>
          obtain ⟨y, pa, pb, Fa, Fb, rfl, hy0, hyn, ta, tb, _⟩ := TR3.out
          have HYN : Hid (w3.heap[y]? = _) := Lib.hid hyn
          have TA := Lib.hid ta
          have TB := Lib.hid tb
          have VA := Lib.hid (fun W (hb : TreeW W Fa pa A) => quiet_same (high_any hb))
          have VB := Lib.hid (fun W (hb : TreeW W Fb pb B) => quiet_same (high_any hb))
          have HBD : Hid ((Tr.node n k l (.node m j A B)).all ≤ 1099511627776 ∧ (Tr.node n k l (.node m j A B)).cnt ≤ 1099511627776) := Lib.hid ⟨h1, h2⟩
          clear hyn ta tb h1 h2
          by_cases hAB : (B.lev : Int) < (A.lev : Int)
          case pos =>
            have HAB : Hid (B.lev < A.lev) := Lib.hid (by omega)
            go_wp2_with fail
            refine wp_region_here 17 [(0, false), (1, false), (2, false), (3, false), (4, false), (5, false), (6, false), (7, false), (8, false), (9, false), (10, false), (11, false), (12, false), (13, false), (14, false), (15, false), (16, false)] (fun _ => .cells #[] 0) (by kernel_rfl) (by kernel_rfl) ?_
            repeat (first | (refine wpP_q rfl rfl rfl ?_; apply Exists.intro; refine ⟨fun w' hw' => ?_, fun K hK => ?_⟩; (focus ((have q0 := keepB HN3.out hw'; have q1 := keepB HYN.out hw'; have j4 := cellAt (o := 5) q0 rfl; have i4 := cellAt (o := 4) q1 rfl; have i5 := cellAt (o := 5) q1 rfl; clear q0 q1; unfold pv pq at j4; simp only [] at j4); go_simp; first | exact quiet_value | first | with_reducible exact quiet_enter (VA.out _ (TA.out.below hw')) | with_reducible exact quiet_enter (VB.out _ (TB.out.below hw')))); simp only [Act.put, List.setIfInBounds_toArray, List.set_cons_zero, List.set_cons_succ]; refine hK.out _ ?_; clear hK K) | (refine wpP_skip rfl rfl rfl (fun K hK => ?_); simp only [Act.put, List.setIfInBounds_toArray, List.set_cons_zero, List.set_cons_succ]; refine hK.out _ ?_; clear hK K))
            refine wpP_nil ?_
            intro w4 hb4
            have HN4 : Hid (w4.heap[b]? = _) := Lib.hid (keepB HN3.out hb4)
            have TT4 := Lib.hid (TT3.out.below hb4)
            have T4 := Lib.hid (TR3.out.below hb4)
            have TO4 := Lib.hid (TL3.out.below hb4)
            have HA4 := Lib.hid (keepB HA3.out hb4)
            have HT4 := Lib.hid (keepB HT3.out hb4)
            have HO4 := Lib.hid (HO3.out.trans (Only.of_below hb4))
            have j9 := cellAt (o := 5) HN4.out rfl
            unfold pv pq at j9
            simp only [] at j9
            clear hb4 HN3 TT3 TL3 TR3 HA3 HT3 HO3
            try simp only [List.drop_succ_cons, List.drop_nil]
            cases A with
            | nil => have := HAB.out; simp only [Tr.lev] at this; omega
            | node mz jz B1 B2 =>
              clear VA VB TA TB hAB
              go_wp2_with fail
              refine (lift_l (cs := _) (off := 5) HN4.out rfl T4.out.stale (fun i hi => (HNR.out i hi).2) (by have := HBD.out.1; simp only [Tr.all] at this ⊢; omega) (by have := HBD.out.2; simp only [Tr.cnt] at this ⊢; omega)).mono ?_
              rintro e w5 ⟨rfl, p5, g1, g2, g3⟩
              have T5 : Hid (TreeS w5 F (some b) (Tr.node n k l (turnL (.node m j (.node mz jz B1 B2) B)))) := Lib.hid ⟨b, pl, p5, Fl, Fr, _, _, rfl, HFb.out, g1, TO4.out.keep g3 (fun i hi _ h => h.elim (HNL.out i hi).2 (fun h => HD.out i ⟨hi, h⟩)), g2, HNL.out, HNR.out, HD.out⟩
              have HA5 := Lib.hid (g3.get HA4.out (fun h => h.elim hab (fun h => na a (HNR.out a h).1 rfl)))
              have HT5 := Lib.hid (g3.get HT4.out (fun h => h.elim (fun e => by have := HBb.out; omega) (fun h => by have := hFs _ (HNR.out _ h).1; omega)))
              have HO5 : Hid (Only F w w5) := Lib.hid ((HO4.out.mono (fun i _ e => e ▸ HFb.out)).trans (g3.mono (fun i _ h => h.elim (fun e => e ▸ HFb.out) (fun h => (HNR.out i h).1))))
              have c0 := cellAt (o := 0) HT5.out rfl
              clear g1 g2 g3 HA4 HT4 HO4 T4 TO4 HN4
              go_wp2_with fail
              refine (lift_r HA5.out hc T5.out na (by have := HBD.out.1; simp only [Tr.all] at this ⊢; omega) (by have := HBD.out.2; simp only [Tr.cnt] at this ⊢; omega)).mono ?_
              rintro e w6 ⟨rfl, p6, g1, g2, g3⟩
              have HG1 := Lib.hid g1
              have HG2 := Lib.hid g2
              have HG3 := Lib.hid (HO5.out.trans_or g3)
              have HE : Hid (levT (Tr.node n k l (.node m j (.node mz jz B1 B2) B)) = turnR (.node n k l (turnL (.node m j (.node mz jz B1 B2) B)))) := Lib.hid (by rw [levT_node]; simp only [LL.out, RR.out]; rw [if_neg (by omega), if_pos (by omega)]; rw [if_pos (show (Tr.node m j (.node mz jz B1 B2) B).right.lev < (Tr.node m j (.node mz jz B1 B2) B).left.lev from HAB.out)])
              clear g1 g2 g3 c0
              go_wp2_with fail
              go_end0
              exact ⟨rfl, p6, HG1.out, by rw [HE.out]; exact HG2.out, HG3.out⟩
          case neg =>
            have HAB : Hid (¬ B.lev < A.lev) := Lib.hid (by omega)
            go_wp2_with fail
            refine wp_region_here 17 [(0, false), (1, false), (2, false), (3, false), (4, false), (5, false), (6, false), (7, false), (8, false), (9, false), (10, false), (11, false), (12, false), (13, false), (14, false), (15, false), (16, false)] (fun _ => .cells #[] 0) (by kernel_rfl) (by kernel_rfl) ?_
            repeat (first | (refine wpP_q rfl rfl rfl ?_; apply Exists.intro; refine ⟨fun w' hw' => ?_, fun K hK => ?_⟩; (focus ((have q0 := keepB HN3.out hw'; have q1 := keepB HYN.out hw'; have j4 := cellAt (o := 5) q0 rfl; have i4 := cellAt (o := 4) q1 rfl; have i5 := cellAt (o := 5) q1 rfl; clear q0 q1; unfold pv pq at j4; simp only [] at j4); go_simp; first | exact quiet_value | first | with_reducible exact quiet_enter (VA.out _ (TA.out.below hw')) | with_reducible exact quiet_enter (VB.out _ (TB.out.below hw')))); simp only [Act.put, List.setIfInBounds_toArray, List.set_cons_zero, List.set_cons_succ]; refine hK.out _ ?_; clear hK K) | (refine wpP_skip rfl rfl rfl (fun K hK => ?_); simp only [Act.put, List.setIfInBounds_toArray, List.set_cons_zero, List.set_cons_succ]; refine hK.out _ ?_; clear hK K))
            refine wpP_nil ?_
            intro w4 hb4
            have HN4 : Hid (w4.heap[b]? = _) := Lib.hid (keepB HN3.out hb4)
            have TT4 := Lib.hid (TT3.out.below hb4)
            have T4 := Lib.hid (TR3.out.below hb4)
            have TO4 := Lib.hid (TL3.out.below hb4)
            have HA4 := Lib.hid (keepB HA3.out hb4)
            have HT4 := Lib.hid (keepB HT3.out hb4)
            have HO4 := Lib.hid (HO3.out.trans (Only.of_below hb4))
            have j9 := cellAt (o := 5) HN4.out rfl
            unfold pv pq at j9
            simp only [] at j9
            clear hb4 HN3 TT3 TL3 TR3 HA3 HT3 HO3
            try simp only [List.drop_succ_cons, List.drop_nil]
            have c0 := cellAt (o := 0) HT4.out rfl
            have T5 : Hid (TreeS w4 F (some b) (Tr.node n k l (.node m j A B))) := Lib.hid TT4.out.stale
            go_wp2_with fail
            refine (lift_r HA4.out hc T5.out na HBD.out.1 HBD.out.2).mono ?_
            rintro e w6 ⟨rfl, p6, g1, g2, g3⟩
            have HG1 := Lib.hid g1
            have HG2 := Lib.hid g2
            have HG3 := Lib.hid ((HO4.out.mono (fun i _ e => e ▸ HFb.out) : Only F w w4).trans_or g3)
            have HE : Hid (levT (Tr.node n k l (.node m j A B)) = turnR (.node n k l (.node m j A B))) := Lib.hid (by rw [levT_node]; simp only [LL.out, RR.out]; rw [if_neg (by omega), if_pos (by omega)]; rw [if_neg (show ¬ (Tr.node m j A B).right.lev < (Tr.node m j A B).left.lev from HAB.out)])
            clear g1 g2 g3 c0
            go_wp2_with fail
            go_end0
            exact ⟨rfl, p6, HG1.out, by rw [HE.out]; exact HG2.out, HG3.out⟩
      case neg =>
        have HE : Hid (levT (.node n k l r) = .node n k l r) := Lib.hid (by rw [levT_node, if_neg (by rw [LL.out, RR.out]; omega), if_neg (by rw [LL.out, RR.out]; omega)])
        have HE2 : Hid (cs.setIfInBounds off (pv (some b)) = cs) := Lib.hid (set_same hc)
        go_wp2_with fail
        go_end0
        exact ⟨rfl, some b, by rw [HE2.out]; exact HA3.out, by rw [HE.out]; exact TT3.out, HO3.out.mono (fun i _ e => .inr (e ▸ HFb.out))⟩
end
end Go.Proofs.Ytjcbikkihijkiaa
