/- A bag's tree: first. -/
import Derived.Test.YtjcbikkihijkiaaBgP
namespace Go.Proofs.Ytjcbikkihijkiaa
open Go.RowKit
def FirstP (w : World) (a off : Nat) (cs : Array Value) (t : TypeId) (F : Nat → Prop) (T : Tr) (e : Ending) (w' : World) : Prop :=
  e = .returned (.tuple #[.int .i64 (firstT T).1.1, .int .i64 ((firstT T).1.2 : Int)]) ∧ ∃ p', w'.heap[a]? = some (.cells (cs.setIfInBounds off (pv p')) t (0, 0)) ∧ TreeW w' F p' (firstT T).2 ∧ Only (fun i => i = a ∨ F i) w w'
theorem firstT_cnt : ∀ T : Tr, (firstT T).2.cnt ≤ T.cnt
  | .nil => Nat.le_refl _
  | .node m j .nil r => by simp only [firstT, Tr.cnt]; omega
  | .node m j (.node m' j' l' r') r => by
    have := firstT_cnt (.node m' j' l' r')
    simp only [firstT, levT_cnt]; simp only [Tr.cnt] at this ⊢; omega
theorem firstT_all : ∀ T : Tr, (firstT T).2.all + (firstT T).1.2 = T.all
  | .nil => rfl
  | .node m j .nil r => by simp only [firstT, Tr.all]; omega
  | .node m j (.node m' j' l' r') r => by
    have := firstT_all (.node m' j' l' r')
    simp only [firstT, levT_all]; simp only [Tr.all] at this ⊢; omega
set_option maxHeartbeats 8000000 in
set_option maxRecDepth 100000 in
theorem first_any (T : Tr) : ∀ {w : World} {a off : Nat} {cs : Array Value} {t : TypeId} {F : Nat → Prop} {p : Option Nat}, T ≠ .nil → w.heap[a]? = some (.cells cs t (0, 0)) → cs[off]? = some (pv p) → TreeW w F p T → (∀ i, F i → i ≠ a) → (∀ i, F i → i < w.heap.size) → T.all ≤ 1099511627776 → T.cnt ≤ 1099511627776 →
    Calls Try.prog 54 #[.agg #[.pointer (some ⟨a, off, none⟩)]] w (FirstP w a off cs t F T) := by
  induction T with
  | nil => intro w a off cs t F p hne; exact absurd rfl hne
  | node m j l r ihl _ =>
    intro w a off cs t F p _ h hc hT na hFs h1 h2
    obtain ⟨b, pl, pr, Fl, Fr, rfl, hF, hn, tl, tr, nl, nr, hd⟩ := hT
    have hb0 := below_alloc (Below.refl w.heap.size w) (.cells #[.pointer (some ⟨a, off, none⟩)] 61)
    have HT0 := Lib.hid (newB w (.cells #[.pointer (some ⟨a, off, none⟩)] 61))
    have HA1 := Lib.hid (keepB h hb0)
    have HN1 : Hid ((w.alloc (.cells #[.pointer (some ⟨a, off, none⟩)] 61)).heap[b]? = _) := Lib.hid (keepB (show w.heap[b]? = _ from hn) hb0)
    have TL1 := Lib.hid (tl.below hb0)
    have TR1 := Lib.hid (tr.below hb0)
    have HZ : Hid (a < w.heap.size) := Lib.hid (only_lt h)
    have HBb := Lib.hid (only_lt hn)
    have HB0 := Lib.hid hb0
    have HNL := Lib.hid nl
    have HNR := Lib.hid nr
    have HD := Lib.hid hd
    have HFb := Lib.hid hF
    have hab : a ≠ b := Ne.symm (na b hF)
    have hcb : cs[off]? = some (.pointer (some ⟨b, 0, none⟩)) := hc
    have c0 := cellAt (o := 0) HT0.out rfl
    have ca := cellAt HA1.out hcb
    clear h hb0 hn tl tr nl nr hd hF
    cases l with
    | nil =>
      obtain rfl : pl = none := TL1.out
      have j4 := cellAt (o := 4) (v := .pointer none) HN1.out rfl
      go_enter Try.func54, Try.ntmps54
      go_wp2_with fail
      refine wp_region_here 6 [(0, false), (1, false), (2, false), (3, false), (4, false), (5, false)] (fun _ => .cells #[] 0) (by kernel_rfl) (by kernel_rfl) ?_
      repeat (first | (refine wpP_q rfl rfl rfl ?_; apply Exists.intro; refine ⟨fun w' hw' => ?_, fun K hK => ?_⟩; (focus ((have q0 := keepB HN1.out hw'; have q1 := keepB HT0.out hw'; have j5 := cellAt (o := 5) q0 rfl; have d0 := cellAt (o := 0) q1 rfl; clear q0 q1); go_simp; first | exact quiet_value | fail)); simp only [Act.put, List.setIfInBounds_toArray, List.set_cons_zero, List.set_cons_succ]; refine hK.out _ ?_; clear hK K) | (refine wpP_skip rfl rfl rfl (fun K hK => ?_); simp only [Act.put, List.setIfInBounds_toArray, List.set_cons_zero, List.set_cons_succ]; refine hK.out _ ?_; clear hK K))
      refine wpP_nil ?_
      intro w2 hb2
      have HA2 := Lib.hid (keepB HA1.out hb2)
      have ca2 := cellAt HA2.out hcb
      have fa2 := freeAt off HA2.out
      have hO := Only.set w2 a off (.pointer (pq pr))
      have HAf := Lib.hid (set_at (off := off) (u := .pointer (pq pr)) HA2.out)
      have HNf := Lib.hid (hO.get (keepB HN1.out hb2) (Ne.symm hab))
      have TRf := Lib.hid ((TR1.out.below hb2).keep hO (fun i hi _ e => na i (HNR.out i hi).1 e))
      have HOf := Lib.hid (((Only.of_below HB0.out).trans (Only.of_below hb2)).trans hO : Only (fun i => i = a) w _)
      clear hb2 hO
      try simp only [List.drop_succ_cons, List.drop_zero]
      go_wp2_with fail
      generalize (World.setCell w2 _ _) = W3 at *
      refine wp_region_here 10 [(0, false), (1, false), (2, false), (3, false), (4, false), (5, false), (6, false), (7, false), (8, false), (9, false)] (fun _ => .cells #[] 0) (by kernel_rfl) (by kernel_rfl) ?_
      repeat (first | (refine wpP_q rfl rfl rfl ?_; apply Exists.intro; refine ⟨fun w' hw' => ?_, fun K hK => ?_⟩; (focus ((have q0 := keepB HNf.out hw'; have j0 := cellAt (o := 0) q0 rfl; have j1 := cellAt (o := 1) q0 rfl; clear q0); go_simp; first | exact quiet_value | fail)); simp only [Act.put, List.setIfInBounds_toArray, List.set_cons_zero, List.set_cons_succ]; refine hK.out _ ?_; clear hK K) | (refine wpP_skip rfl rfl rfl (fun K hK => ?_); simp only [Act.put, List.setIfInBounds_toArray, List.set_cons_zero, List.set_cons_succ]; refine hK.out _ ?_; clear hK K))
      refine wpP_nil ?_
      intro w4 hb4
      have R1 := Lib.hid (keepB HAf.out hb4)
      have R2 := Lib.hid (TRf.out.below hb4)
      have R3 := Lib.hid (HOf.out.trans (Only.of_below hb4))
      clear hb4
      try simp only [List.drop_succ_cons, List.drop_nil]
      go_wp2_with fail
      refine bodyPost_ret (v := .tuple #[.int .i64 m, .int .i64 (j : Int)]) (by simp only [results, Try.results54]; go_simp) rfl ⟨rfl, pr, R1.out, R2.out.weak (fun i hi => (HNR.out i hi).1), R3.out.mono (fun i _ h => .inl h)⟩
    | node m' j' l' r' =>
      have HE : Hid (firstT (.node m j (.node m' j' l' r') r) = ((firstT (.node m' j' l' r')).1, levT (.node m j (firstT (.node m' j' l' r')).2 r))) := Lib.hid rfl
      have CI := Lib.hid (@ihl (w.alloc (.cells #[.pointer (some ⟨a, off, none⟩)] 61)) b 4 _ 69 Fl pl (by simp) HN1.out rfl TL1.out (fun i hi => (HNL.out i hi).2) (fun i hi => by have := hFs i (HNL.out i hi).1; rw [alloc_size]; omega) (by simp only [Tr.all] at h1 ⊢; omega) (by simp only [Tr.cnt] at h2 ⊢; omega))
      have hal := firstT_all (.node m' j' l' r')
      have hcn := firstT_cnt (.node m' j' l' r')
      have hyl : ∃ y, pl = some y := by obtain ⟨y, _, _, _, _, e, _⟩ := TL1.out; exact ⟨y, e⟩
      obtain ⟨y, rfl⟩ := hyl
      have j4 := cellAt (o := 4) (v := .pointer (some ⟨y, 0, none⟩)) HN1.out rfl
      obtain ⟨⟨fn, fk⟩, T2, hf⟩ : ∃ q T2, firstT (.node m' j' l' r') = (q, T2) := ⟨_, _, rfl⟩
      unfold FirstP at CI ⊢
      rw [HE.out]
      simp only [hf] at CI hal hcn ⊢
      clear HE ihl
      go_enter Try.func54, Try.ntmps54
      go_wp2_with fail
      refine CI.out.mono ?_
      rintro e w2 ⟨rfl, p', g1, g2, g4⟩
      have TO2 := Lib.hid (TR1.out.keep g4 (fun i hi _ h => h.elim (HNR.out i hi).2 (fun h => HD.out i ⟨h, hi⟩)))
      have HA2 := Lib.hid (g4.get HA1.out (fun h => h.elim hab (fun h => na a (HNL.out a h).1 rfl)))
      have HT2 := Lib.hid (g4.get HT0.out (fun h => h.elim (fun e => by have := HBb.out; omega) (fun h => by have := hFs _ (HNL.out _ h).1; omega)))
      have HO2 := Lib.hid ((Only.of_below HB0.out).trans g4)
      have HTS : Hid (TreeS w2 F (some b) (.node m j T2 r)) := Lib.hid ⟨b, p', pr, Fl, Fr, _, _, rfl, HFb.out, g1, g2, TO2.out, HNL.out, HNR.out, HD.out⟩
      have d0 := cellAt (o := 0) HT2.out rfl
      clear g1 g2 g4 CI j4 c0 ca
      go_wp2_with fail
      refine (level_any HA2.out hc HTS.out na (fun i hi => Nat.lt_of_lt_of_le (hFs i hi) HO2.out.size) (by simp only [Tr.all] at h1 hal ⊢; omega) (by simp only [Tr.cnt] at h2 hcn ⊢; omega)).mono ?_
      rintro e w5 ⟨rfl, p5, g1, g2, g3⟩
      have R1 := Lib.hid g1
      have R2 := Lib.hid g2
      have R3 : Hid (Only (fun i => i = a ∨ F i) w w5) := Lib.hid ((HO2.out.mono (fun i _ h => h.elim (fun e => .inr (e ▸ HFb.out)) (fun h => .inr (HNL.out i h).1))).trans g3)
      clear g1 g2 g3
      go_wp2_with fail
      refine bodyPost_ret (v := .tuple #[.int .i64 fn, .int .i64 (fk : Int)]) (by simp only [results, Try.results54]; go_simp) rfl ⟨rfl, p5, R1.out, R2.out, R3.out⟩
end Go.Proofs.Ytjcbikkihijkiaa
