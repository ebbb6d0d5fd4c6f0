/- A bag's tree: take. -/
import Derived.Test.YtjcbikkihijkiaaBgF
namespace Go.Proofs.Ytjcbikkihijkiaa
open Go.RowKit
/-- Is a number there? -/
def hasT (n : Int) : Tr → Prop
  | .nil => False
  | .node m _ l r => if n < m then hasT n l else if m < n then hasT n r else True
theorem takeT_cnt {n : Int} : ∀ T : Tr, (takeT n T).cnt ≤ T.cnt
  | .nil => Nat.le_refl _
  | .node m j l r => by
    have h1 := takeT_cnt (n := n) l
    have h2 := takeT_cnt (n := n) r
    unfold takeT
    split
    · rw [levT_cnt]; simp only [Tr.cnt]; omega
    · split
      · rw [levT_cnt]; simp only [Tr.cnt]; omega
      · split
        · rw [levT_cnt]; simp only [Tr.cnt]; omega
        · split
          · rw [levT_cnt]; simp only [Tr.cnt]; omega
          · rename_i m' j' l' r'
            have h3 := firstT_cnt (.node m' j' l' r')
            rw [levT_cnt]; simp only [Tr.cnt] at h3 ⊢; omega
theorem takeT_all {n : Int} : ∀ T : Tr, (takeT n T).all ≤ T.all
  | .nil => Nat.le_refl _
  | .node m j l r => by
    have h1 := takeT_all (n := n) l
    have h2 := takeT_all (n := n) r
    unfold takeT
    split
    · rw [levT_all]; simp only [Tr.all]; omega
    · split
      · rw [levT_all]; simp only [Tr.all]; omega
      · split
        · rw [levT_all]; simp only [Tr.all]; omega
        · split
          · rw [levT_all]; simp only [Tr.all]; omega
          · rename_i m' j' l' r'
            have h3 := firstT_all (.node m' j' l' r')
            rw [levT_all]; simp only [Tr.all] at h3 ⊢; omega
set_option maxHeartbeats 8000000 in
set_option maxRecDepth 100000 in
theorem take_any {n : Int} (T : Tr) : ∀ {w : World} {a off : Nat} {cs : Array Value} {t : TypeId} {F : Nat → Prop} {p : Option Nat}, hasT n T → w.heap[a]? = some (.cells cs t (0, 0)) → cs[off]? = some (pv p) → TreeW w F p T → (∀ i, F i → i ≠ a) → (∀ i, F i → i < w.heap.size) → T.all ≤ 1099511627776 → T.cnt ≤ 1099511627776 →
    Calls Try.prog 30 #[.agg #[.pointer (some ⟨a, off, none⟩)], .int .i64 n] w (LevP w a off cs t F (takeT n T)) := by
  induction T with
  | nil => intro w a off cs t F p hin; exact hin.elim
  | node m j l r ihl ihr =>
    intro w a off cs t F p hin h hc hT na hFs h1 h2
    obtain ⟨b, pl, pr, Fl, Fr, rfl, hF, hn, tl, tr, nl, nr, hd⟩ := hT
    have hb0 := below_alloc (Below.refl w.heap.size w) (.cells #[.pointer (some ⟨a, off, none⟩)] 61)
    have HT0 := Lib.hid (newB w (.cells #[.pointer (some ⟨a, off, none⟩)] 61))
    have HA1 := Lib.hid (keepB h hb0)
    have HN1 : Hid ((w.alloc (.cells #[.pointer (some ⟨a, off, none⟩)] 61)).heap[b]? = _) := Lib.hid (keepB (show w.heap[b]? = _ from hn) hb0)
    have TL1 := Lib.hid (tl.below hb0)
    have TR1 := Lib.hid (tr.below hb0)
    have HZ : Hid (a < w.heap.size) := Lib.hid (only_lt h)
    have HBb := Lib.hid (only_lt hn)
    have HB0 := Lib.hid hb0
    have HNL := Lib.hid nl
    have HNR := Lib.hid nr
    have HD := Lib.hid hd
    have HFb := Lib.hid hF
    have hab : a ≠ b := Ne.symm (na b hF)
    have hcb : cs[off]? = some (.pointer (some ⟨b, 0, none⟩)) := hc
    have c0 := cellAt (o := 0) HT0.out rfl
    have ca := cellAt HA1.out hcb
    have j0 := cellAt (o := 0) HN1.out rfl
    clear h hb0 hn tl tr nl nr hd hF
    by_cases hlt : n < m
    case pos =>
      have HE : Hid (takeT n (.node m j l r) = levT (.node m j (takeT n l) r)) := Lib.hid (by simp only [takeT]; rw [if_pos hlt])
      have hin2 : hasT n l := by simp only [hasT] at hin; rwa [if_pos hlt] at hin
      rw [HE.out]
      have CI := Lib.hid (@ihl (w.alloc (.cells #[.pointer (some ⟨a, off, none⟩)] 61)) b 4 _ 69 Fl pl hin2 HN1.out rfl TL1.out (fun i hi => (HNL.out i hi).2) (fun i hi => by have := hFs i (HNL.out i hi).1; rw [alloc_size]; omega) (by simp only [Tr.all] at h1; omega) (by simp only [Tr.cnt] at h2; omega))
      have hcn := takeT_cnt (n := n) l
      have hal := takeT_all (n := n) l
      clear HE ihl ihr hin hin2
      go_enter Try.func30, Try.ntmps30
      go_wp2_with fail
      refine CI.out.mono ?_
      rintro e w2 ⟨rfl, p', g1, g2, g4⟩
      have TO2 := Lib.hid (TR1.out.keep g4 (fun i hi _ h => h.elim (HNR.out i hi).2 (fun h => HD.out i ⟨h, hi⟩)))
      have HA2 := Lib.hid (g4.get HA1.out (fun h => h.elim hab (fun h => na a (HNL.out a h).1 rfl)))
      have HT2 := Lib.hid (g4.get HT0.out (fun h => h.elim (fun e => by have := HBb.out; omega) (fun h => by have := hFs _ (HNL.out _ h).1; omega)))
      have HO2 := Lib.hid ((Only.of_below HB0.out).trans g4)
      have HTS : Hid (TreeS w2 F (some b) (.node m j (takeT n l) r)) := Lib.hid ⟨b, p', pr, Fl, Fr, _, _, rfl, HFb.out, g1, g2, TO2.out, HNL.out, HNR.out, HD.out⟩
      have d0 := cellAt (o := 0) HT2.out rfl
      clear g1 g2 g4 CI c0 ca j0
      go_wp2_with fail
      refine (level_any HA2.out hc HTS.out na (fun i hi => Nat.lt_of_lt_of_le (hFs i hi) HO2.out.size) (by simp only [Tr.all] at h1 hal ⊢; omega) (by simp only [Tr.cnt] at h2 hcn ⊢; omega)).mono ?_
      rintro e w5 ⟨rfl, p5, g1, g2, g3⟩
      have R1 := Lib.hid g1
      have R2 := Lib.hid g2
      have R3 : Hid (Only (fun i => i = a ∨ F i) w w5) := Lib.hid ((HO2.out.mono (fun i _ h => h.elim (fun e => .inr (e ▸ HFb.out)) (fun h => .inr (HNL.out i h).1))).trans g3)
      clear g1 g2 g3
      go_wp2_with fail
      go_end0
      exact ⟨rfl, p5, R1.out, R2.out, R3.out⟩
    by_cases hgt : m < n
    case pos =>
      have HE : Hid (takeT n (.node m j l r) = levT (.node m j l (takeT n r))) := Lib.hid (by simp only [takeT]; rw [if_neg hlt, if_pos hgt])
      have hin2 : hasT n r := by simp only [hasT] at hin; rwa [if_neg hlt, if_pos hgt] at hin
      rw [HE.out]
      have CI := Lib.hid (@ihr (w.alloc (.cells #[.pointer (some ⟨a, off, none⟩)] 61)) b 5 _ 69 Fr pr hin2 HN1.out rfl TR1.out (fun i hi => (HNR.out i hi).2) (fun i hi => by have := hFs i (HNR.out i hi).1; rw [alloc_size]; omega) (by simp only [Tr.all] at h1; omega) (by simp only [Tr.cnt] at h2; omega))
      have hcn := takeT_cnt (n := n) r
      have hal := takeT_all (n := n) r
      clear HE ihl ihr hin hin2
      go_enter Try.func30, Try.ntmps30
      go_wp2_with fail
      refine CI.out.mono ?_
      rintro e w2 ⟨rfl, p', g1, g2, g4⟩
      have TO2 := Lib.hid (TL1.out.keep g4 (fun i hi _ h => h.elim (HNL.out i hi).2 (fun h => HD.out i ⟨hi, h⟩)))
      have HA2 := Lib.hid (g4.get HA1.out (fun h => h.elim hab (fun h => na a (HNR.out a h).1 rfl)))
      have HT2 := Lib.hid (g4.get HT0.out (fun h => h.elim (fun e => by have := HBb.out; omega) (fun h => by have := hFs _ (HNR.out _ h).1; omega)))
      have HO2 := Lib.hid ((Only.of_below HB0.out).trans g4)
      have HTS : Hid (TreeS w2 F (some b) (.node m j l (takeT n r))) := Lib.hid ⟨b, pl, p', Fl, Fr, _, _, rfl, HFb.out, g1, TO2.out, g2, HNL.out, HNR.out, HD.out⟩
      have d0 := cellAt (o := 0) HT2.out rfl
      clear g1 g2 g4 CI c0 ca j0
      go_wp2_with fail
      refine (level_any HA2.out hc HTS.out na (fun i hi => Nat.lt_of_lt_of_le (hFs i hi) HO2.out.size) (by simp only [Tr.all] at h1 hal ⊢; omega) (by simp only [Tr.cnt] at h2 hcn ⊢; omega)).mono ?_
      rintro e w5 ⟨rfl, p5, g1, g2, g3⟩
      have R1 := Lib.hid g1
      have R2 := Lib.hid g2
      have R3 : Hid (Only (fun i => i = a ∨ F i) w w5) := Lib.hid ((HO2.out.mono (fun i _ h => h.elim (fun e => .inr (e ▸ HFb.out)) (fun h => .inr (HNR.out i h).1))).trans g3)
      clear g1 g2 g3
      go_wp2_with fail
      go_end0
      exact ⟨rfl, p5, R1.out, R2.out, R3.out⟩
    have j1 := cellAt (o := 1) HN1.out rfl
    clear ihl ihr hin
    by_cases hj : (1 : Int) < (j : Int)
    case pos =>
      have HE : Hid (takeT n (.node m j l r) = levT (.node m (j - 1) l r)) := Lib.hid (by simp only [takeT]; rw [if_neg hlt, if_neg hgt, if_pos (by omega)])
      rw [HE.out]
      have hw : IntKind.i64.wrap ((j : Int) - 1) = ((j - 1 : Nat) : Int) := by simp only [Tr.all] at h1; rw [IntKind.wrap_i64]; omega
      have f1 := freeAt 1 HN1.out
      have hO := Only.set (w.alloc (.cells #[.pointer (some ⟨a, off, none⟩)] 61)) b 1 (.int .i64 ((j - 1 : Nat) : Int))
      have HNf := Lib.hid (set_at (off := 1) (u := .int .i64 ((j - 1 : Nat) : Int)) HN1.out)
      have HA2 := Lib.hid (hO.get HA1.out hab)
      have HTf := Lib.hid (hO.get HT0.out (fun e => by have := HBb.out; omega))
      have TLf := Lib.hid (TL1.out.keep hO (fun i hi _ e => (HNL.out i hi).2 e))
      have TRf := Lib.hid (TR1.out.keep hO (fun i hi _ e => (HNR.out i hi).2 e))
      have HO2 : Hid (Only (fun i => i = b ∨ Fl i) w _) := Lib.hid (((Only.of_below HB0.out).trans hO).mono (fun _ _ e => .inl e))
      have e0 := cellAt (o := 0) HTf.out rfl
      have hcn : (Tr.node m (j - 1) l r).cnt ≤ (Tr.node m j l r).cnt := Nat.le_refl _
      have hal : (Tr.node m (j - 1) l r).all ≤ (Tr.node m j l r).all := by simp only [Tr.all]; omega
      clear HE hO
      go_enter Try.func30, Try.ntmps30
      go_wp2_with fail
      generalize (World.setCell _ ⟨b, 1, none⟩ _) = W2 at *
      have HTS : Hid (TreeS W2 F (some b) (.node m (j - 1) l r)) := Lib.hid ⟨b, pl, pr, Fl, Fr, _, _, rfl, HFb.out, HNf.out, TLf.out, TRf.out, HNL.out, HNR.out, HD.out⟩
      refine (level_any HA2.out hc HTS.out na (fun i hi => Nat.lt_of_lt_of_le (hFs i hi) HO2.out.size) (by simp only [Tr.all] at h1 hal ⊢; omega) (by simp only [Tr.cnt] at h2 hcn ⊢; omega)).mono ?_
      rintro e w5 ⟨rfl, p5, g1, g2, g3⟩
      have R1 := Lib.hid g1
      have R2 := Lib.hid g2
      have R3 : Hid (Only (fun i => i = a ∨ F i) w w5) := Lib.hid ((HO2.out.mono (fun i _ h => h.elim (fun e => .inr (e ▸ HFb.out)) (fun h => .inr (HNL.out i h).1))).trans g3)
      clear g1 g2 g3
      go_wp2_with fail
      go_end0
      exact ⟨rfl, p5, R1.out, R2.out, R3.out⟩
    cases r with
    | nil =>
      obtain rfl : pr = none := TR1.out
      have HE : Hid (takeT n (.node m j l .nil) = levT l) := Lib.hid (by simp only [takeT]; rw [if_neg hlt, if_neg hgt, if_neg (by omega)])
      rw [HE.out]
      have j5 := cellAt (o := 5) (v := .pointer none) HN1.out rfl
      clear HE
      go_enter Try.func30, Try.ntmps30
      go_wp2_with fail
      refine wp_region_here 6 [(0, false), (1, false), (2, false), (3, false), (4, false), (5, false)] (fun _ => .cells #[] 0) (by kernel_rfl) (by kernel_rfl) ?_
      repeat (first | (refine wpP_q rfl rfl rfl ?_; apply Exists.intro; refine ⟨fun w' hw' => ?_, fun K hK => ?_⟩; (focus ((have q0 := keepB HN1.out hw'; have q1 := keepB HT0.out hw'; have i4 := cellAt (o := 4) q0 rfl; have d0 := cellAt (o := 0) q1 rfl; clear q0 q1); go_simp; first | exact quiet_value | fail)); simp only [Act.put, List.setIfInBounds_toArray, List.set_cons_zero, List.set_cons_succ]; refine hK.out _ ?_; clear hK K) | (refine wpP_skip rfl rfl rfl (fun K hK => ?_); simp only [Act.put, List.setIfInBounds_toArray, List.set_cons_zero, List.set_cons_succ]; refine hK.out _ ?_; clear hK K))
      refine wpP_nil ?_
      intro w2 hb2
      have HAx := Lib.hid (keepB HA1.out hb2)
      have ca2 := cellAt HAx.out hcb
      have fa2 := freeAt off HAx.out
      have hO := Only.set w2 a off (.pointer (pq pl))
      have HA2 := Lib.hid (set_at (off := off) (u := .pointer (pq pl)) HAx.out)
      have TLf := Lib.hid ((TL1.out.below hb2).keep hO (fun i hi _ e => na i (HNL.out i hi).1 e))
      have HTf := Lib.hid (hO.get (keepB HT0.out hb2) (fun e => by have := HZ.out; omega))
      have HOf := Lib.hid (((Only.of_below HB0.out).trans (Only.of_below hb2)).trans hO : Only (fun i => i = a) w _)
      have HCs : Hid ((cs.setIfInBounds off (.pointer (pq pl)))[off]? = some (pv pl)) := Lib.hid (by
        rw [Array.getElem?_setIfInBounds_self_of_lt (by
          rcases Nat.lt_or_ge off cs.size with h | h
          · exact h
          · rw [Array.getElem?_eq_none h] at hc; cases hc)])
      have e0 := cellAt (o := 0) HTf.out rfl
      clear hb2 hO
      try simp only [List.drop_succ_cons, List.drop_zero]
      go_wp2_with fail
      generalize (World.setCell w2 _ _) = W3 at *
      refine (level_any HA2.out HCs.out TLf.out.stale (fun i hi => na i (HNL.out i hi).1) (fun i hi => Nat.lt_of_lt_of_le (hFs i (HNL.out i hi).1) HOf.out.size) (by simp only [Tr.all] at h1 ⊢; omega) (by simp only [Tr.cnt] at h2 ⊢; omega)).mono ?_
      rintro e w5 ⟨rfl, p5, g1, g2, g3⟩
      have R1 := Lib.hid g1
      rw [Array.setIfInBounds_setIfInBounds] at R1
      have R2 := Lib.hid (g2.weak (fun i hi => (HNL.out i hi).1))
      have R3 : Hid (Only (fun i => i = a ∨ F i) w w5) := Lib.hid ((HOf.out.mono (fun i _ h => .inl h)).trans (g3.mono (fun i _ h => h.imp id (fun h => (HNL.out i h).1))))
      clear g1 g2 g3
      go_wp2_with fail
      go_end0
      exact ⟨rfl, p5, R1.out, R2.out, R3.out⟩
    | node m' j' l' r' =>
      have hyr : ∃ y, pr = some y := by obtain ⟨y, _, _, _, _, e, _⟩ := TR1.out; exact ⟨y, e⟩
      obtain ⟨y, rfl⟩ := hyr
      have j5 := cellAt (o := 5) (v := .pointer (some ⟨y, 0, none⟩)) HN1.out rfl
      have CI := Lib.hid (@first_any (.node m' j' l' r') (w.alloc (.cells #[.pointer (some ⟨a, off, none⟩)] 61)) b 5 _ 69 Fr (some y) (by simp) HN1.out rfl TR1.out (fun i hi => (HNR.out i hi).2) (fun i hi => by have := hFs i (HNR.out i hi).1; rw [alloc_size]; omega) (by simp only [Tr.all] at h1 ⊢; omega) (by simp only [Tr.cnt] at h2 ⊢; omega))
      have hal := firstT_all (.node m' j' l' r')
      have hcn := firstT_cnt (.node m' j' l' r')
      obtain ⟨⟨fn, fk⟩, T2, hf⟩ : ∃ q T2, firstT (.node m' j' l' r') = (q, T2) := ⟨_, _, rfl⟩
      have HE : Hid (takeT n (.node m j l (.node m' j' l' r')) = levT (.node fn fk l T2)) := Lib.hid (by simp only [takeT]; rw [if_neg hlt, if_neg hgt, if_neg (by omega), hf])
      rw [HE.out]
      unfold FirstP at CI
      simp only [hf] at CI hal hcn
      clear HE
      go_enter Try.func30, Try.ntmps30
      go_wp2_with fail
      refine CI.out.mono ?_
      rintro e w2 ⟨rfl, p', g1, g2, g4⟩
      have TO2 := Lib.hid (TL1.out.keep g4 (fun i hi _ h => h.elim (HNL.out i hi).2 (fun h => HD.out i ⟨hi, h⟩)))
      have T22 := Lib.hid g2
      have HN2 := Lib.hid g1
      have HAx := Lib.hid (g4.get HA1.out (fun h => h.elim hab (fun h => na a (HNR.out a h).1 rfl)))
      have HT2 := Lib.hid (g4.get HT0.out (fun h => h.elim (fun e => by have := HBb.out; omega) (fun h => by have := hFs _ (HNR.out _ h).1; omega)))
      have HOx := Lib.hid ((Only.of_below HB0.out).trans g4)
      have i0 := cellAt (o := 0) HN2.out rfl
      have i1 := cellAt (o := 1) HN2.out rfl
      have f0 := freeAt 0 HN2.out
      have f1 := freeAt 1 HN2.out
      have hO : Only (fun i => i = b) w2 ((w2.setCell ⟨b, 0, none⟩ (.int .i64 fn)).setCell ⟨b, 1, none⟩ (.int .i64 (fk : Int))) := (Only.set _ b 0 _).trans (Only.set _ b 1 _)
      have HNf := Lib.hid (set_at (off := 1) (u := .int .i64 (fk : Int)) (set_at (off := 0) (u := .int .i64 fn) HN2.out))
      have HA2 := Lib.hid (hO.get HAx.out hab)
      have HTf := Lib.hid (hO.get HT2.out (fun e => by have := HBb.out; omega))
      have TOf := Lib.hid (TO2.out.keep hO (fun i hi _ e => (HNL.out i hi).2 e))
      have T2f := Lib.hid (T22.out.keep hO (fun i hi _ e => (HNR.out i hi).2 e))
      have HO2 : Hid (Only (fun i => i = b ∨ Fr i) w _) := Lib.hid (HOx.out.trans (hO.mono (fun _ _ e => .inl e)))
      have e0 := cellAt (o := 0) HTf.out rfl
      clear g1 g2 g4 CI c0 ca j0 j1 j5 hO
      go_wp2_with fail
      generalize (World.setCell (World.setCell w2 _ _) _ _) = W4 at *
      have HTS : Hid (TreeS W4 F (some b) (.node fn fk l T2)) := Lib.hid ⟨b, pl, p', Fl, Fr, _, _, rfl, HFb.out, HNf.out, TOf.out, T2f.out, HNL.out, HNR.out, HD.out⟩
      refine (level_any HA2.out hc HTS.out na (fun i hi => Nat.lt_of_lt_of_le (hFs i hi) HO2.out.size) (by simp only [Tr.all] at h1 hal ⊢; omega) (by simp only [Tr.cnt] at h2 hcn ⊢; omega)).mono ?_
      rintro e w5 ⟨rfl, p5, g1, g2, g3⟩
      have R1 := Lib.hid g1
      have R2 := Lib.hid g2
      have R3 : Hid (Only (fun i => i = a ∨ F i) w w5) := Lib.hid ((HO2.out.mono (fun i _ h => h.elim (fun e => .inr (e ▸ HFb.out)) (fun h => .inr (HNR.out i h).1))).trans g3)
      clear g1 g2 g3
      go_wp2_with fail
      go_end0
      exact ⟨rfl, p5, R1.out, R2.out, R3.out⟩
end Go.Proofs.Ytjcbikkihijkiaa
