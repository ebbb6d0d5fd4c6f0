/- A bag's tree: put. -/
import Derived.Test.YtjcbikkihijkiaaBgV
namespace Go.Proofs.Ytjcbikkihijkiaa
open Go.RowKit
def PutP (w : World) (a off : Nat) (cs : Array Value) (t : TypeId) (F : Nat → Prop) (T : Tr) (e : Ending) (w' : World) : Prop :=
  e = .returned (.tuple #[]) ∧ ∃ p' F', w'.heap[a]? = some (.cells (cs.setIfInBounds off (pv p')) t (0, 0)) ∧ TreeW w' F' p' T ∧ (∀ i, F' i → (F i ∨ w.heap.size ≤ i) ∧ i < w'.heap.size) ∧ Only (fun i => i = a ∨ F i) w w'
theorem putT_cnt {n : Int} {k : Nat} : ∀ T : Tr, (putT n k T).cnt ≤ T.cnt + 1
  | .nil => by simp only [putT, levT_cnt, Tr.cnt]; omega
  | .node m j l r => by
    have h1 := putT_cnt (n := n) (k := k) l
    have h2 := putT_cnt (n := n) (k := k) r
    unfold putT
    split
    · rw [levT_cnt]; simp only [Tr.cnt]; omega
    · split <;> (rw [levT_cnt]; simp only [Tr.cnt]; omega)
theorem putT_all {n : Int} {k : Nat} : ∀ T : Tr, (putT n k T).all = T.all + k
  | .nil => by simp only [putT, levT_all, Tr.all]; omega
  | .node m j l r => by
    have h1 := putT_all (n := n) (k := k) l
    have h2 := putT_all (n := n) (k := k) r
    unfold putT
    split
    · rw [levT_all]; simp only [Tr.all]; omega
    · split <;> (rw [levT_all]; simp only [Tr.all]; omega)
set_option maxHeartbeats 8000000 in
set_option maxRecDepth 100000 in
theorem put_any {n : Int} {k : Nat} (T : Tr) : ∀ {w : World} {a off : Nat} {cs : Array Value} {t : TypeId} {F : Nat → Prop} {p : Option Nat}, w.heap[a]? = some (.cells cs t (0, 0)) → cs[off]? = some (pv p) → TreeW w F p T → (∀ i, F i → i ≠ a) → (∀ i, F i → i < w.heap.size) → T.all + k ≤ 1099511627776 → T.cnt + 1 ≤ 1099511627776 →
    Calls Try.prog 28 #[.agg #[.pointer (some ⟨a, off, none⟩)], .int .i64 n, .int .i64 (k : Int)] w (PutP w a off cs t F (putT n k T)) := by
  induction T with
  | nil =>
    intro w a off cs t F p h hc hT na hFs h1 h2
    obtain rfl : p = none := hT
    have hb0 := below_alloc (Below.refl w.heap.size w) (.cells #[.pointer (some ⟨a, off, none⟩)] 61)
    have hb1 := below_alloc hb0 (.cells #[.int .i64 n, .int .i64 (k : Int), .int .i64 0, .int .i64 0, .pointer none, .pointer none] 69)
    have ht0 := newB w (.cells #[.pointer (some ⟨a, off, none⟩)] 61)
    have HT1 := Lib.hid (keepA ht0 (.cells #[.int .i64 n, .int .i64 (k : Int), .int .i64 0, .int .i64 0, .pointer none, .pointer none] 69))
    have hn1 := newB (w.alloc (.cells #[.pointer (some ⟨a, off, none⟩)] 61)) (.cells #[.int .i64 n, .int .i64 (k : Int), .int .i64 0, .int .i64 0, .pointer none, .pointer none] 69)
    rw [alloc_size] at hn1
    have HN1 := Lib.hid hn1
    have HA1 := Lib.hid (keepB h hb1)
    have HZ : Hid (a < w.heap.size) := Lib.hid (only_lt h)
    have HB1 := Lib.hid hb1
    have c0 := cellAt (o := 0) ht0 rfl
    have d0 := cellAt (o := 0) HT1.out rfl
    have hcn : cs[off]? = some (.pointer none) := hc
    have ca := cellAt (keepB h hb0) hcn
    have da := cellAt HA1.out hcn
    have fa := freeAt off HA1.out
    have HTf := Lib.hid (setCell_other (u := .pointer (some ⟨w.heap.size + 1, 0, none⟩)) (b' := a) (o := off) HT1.out (by have := HZ.out; omega))
    have e0 := cellAt (o := 0) HTf.out rfl
    clear h hb0 hb1 ht0 hn1
    go_enter Try.func28, Try.ntmps28
    go_wp2_with fail
    have hO := Only.set ((w.alloc (.cells #[.pointer (some ⟨a, off, none⟩)] 61)).alloc (.cells #[.int .i64 n, .int .i64 (k : Int), .int .i64 0, .int .i64 0, .pointer none, .pointer none] 69)) a off (.pointer (some ⟨w.heap.size + 1, 0, none⟩))
    have HNf := Lib.hid (hO.get HN1.out (by have := HZ.out; omega))
    have HAf := Lib.hid (set_at (off := off) (u := .pointer (some ⟨w.heap.size + 1, 0, none⟩)) HA1.out)
    have HOf : Hid (Only (fun i => i = a) w _) := Lib.hid ((Only.of_below HB1.out).trans hO)
    clear hO
    have HCs : Hid ((cs.setIfInBounds off (.pointer (some ⟨w.heap.size + 1, 0, none⟩)))[off]? = some (pv (some (w.heap.size + 1)))) := Lib.hid (by
      rw [Array.getElem?_setIfInBounds_self_of_lt (by
        rcases Nat.lt_or_ge off cs.size with h | h
        · exact h
        · rw [Array.getElem?_eq_none h] at hc; cases hc)]; rfl)
    have HTS : Hid (TreeS _ (fun i => i = w.heap.size + 1) (some (w.heap.size + 1)) (.node n k .nil .nil)) := Lib.hid ⟨w.heap.size + 1, none, none, fun _ => False, fun _ => False, 0, 0, rfl, rfl, HNf.out, rfl, rfl, fun _ h => h.elim, fun _ h => h.elim, fun _ h => h.1⟩
    refine (level_any HAf.out HCs.out HTS.out (fun i e => by have := HZ.out; omega) (fun i e => by have := only_lt HNf.out; omega) (by simp only [Tr.all] at h1 ⊢; omega) (by simp only [Tr.cnt] at h2 ⊢; omega)).mono ?_
    rintro e w5 ⟨rfl, p', g1, g2, g3⟩
    have R1 := Lib.hid g1
    rw [Array.setIfInBounds_setIfInBounds] at R1
    have R2 := Lib.hid g2.old
    have R3 := Lib.hid (HOf.out.then g3 (fun i hi h => h.elim id (fun e => by omega)))
    clear g1 g2 g3
    go_wp2_with fail
    go_end0
    exact ⟨rfl, p', _, R1.out, R2.out, fun i hi => ⟨.inr (by omega), hi.2⟩, R3.out.mono (fun i _ h => .inl h)⟩
  | node m j l r ihl ihr =>
    intro w a off cs t F p h hc hT na hFs h1 h2
    obtain ⟨b, pl, pr, Fl, Fr, rfl, hF, hn, tl, tr, nl, nr, hd⟩ := hT
    have hb0 := below_alloc (Below.refl w.heap.size w) (.cells #[.pointer (some ⟨a, off, none⟩)] 61)
    have HT0 := Lib.hid (newB w (.cells #[.pointer (some ⟨a, off, none⟩)] 61))
    have HA1 := Lib.hid (keepB h hb0)
    have HN1 : Hid ((w.alloc (.cells #[.pointer (some ⟨a, off, none⟩)] 61)).heap[b]? = _) := Lib.hid (keepB (show w.heap[b]? = _ from hn) hb0)
    have TL1 := Lib.hid (tl.below hb0)
    have TR1 := Lib.hid (tr.below hb0)
    have HZ : Hid (a < w.heap.size) := Lib.hid (only_lt h)
    have HBb := Lib.hid (only_lt hn)
    have HB0 := Lib.hid hb0
    have HNL := Lib.hid nl
    have HNR := Lib.hid nr
    have HD := Lib.hid hd
    have HFb := Lib.hid hF
    have hab : a ≠ b := Ne.symm (na b hF)
    have hcb : cs[off]? = some (.pointer (some ⟨b, 0, none⟩)) := hc
    have c0 := cellAt (o := 0) HT0.out rfl
    have ca := cellAt HA1.out hcb
    have j0 := cellAt (o := 0) HN1.out rfl
    clear h hb0 hn tl tr nl nr hd hF
    by_cases hlt : n < m
    case pos =>
      have HE : Hid (putT n k (.node m j l r) = levT (.node m j (putT n k l) r)) := Lib.hid (by simp only [putT]; rw [if_pos hlt])
      rw [HE.out]
      have CI := Lib.hid (@ihl (w.alloc (.cells #[.pointer (some ⟨a, off, none⟩)] 61)) b 4 _ 69 Fl pl HN1.out rfl TL1.out (fun i hi => (HNL.out i hi).2) (fun i hi => by have := hFs i (HNL.out i hi).1; rw [alloc_size]; omega) (by simp only [Tr.all] at h1; omega) (by simp only [Tr.cnt] at h2; omega))
      clear HE ihl ihr
      go_enter Try.func28, Try.ntmps28
      go_wp2_with fail
      refine CI.out.mono ?_
      rintro e w2 ⟨rfl, p', F', g1, g2, g3, g4⟩
      have TO2 := Lib.hid (TR1.out.keep g4 (fun i hi _ h => h.elim (HNR.out i hi).2 (fun h => HD.out i ⟨h, hi⟩)))
      have HA2 := Lib.hid (g4.get HA1.out (fun h => h.elim hab (fun h => na a (HNL.out a h).1 rfl)))
      have HT2 := Lib.hid (g4.get HT0.out (fun h => h.elim (fun e => by have := HBb.out; omega) (fun h => by have := hFs _ (HNL.out _ h).1; omega)))
      have HG3 := Lib.hid g3
      have HO2 := Lib.hid ((Only.of_below HB0.out).trans g4)
      have HGb : Hid (∀ i, F' i → (F i ∨ w.heap.size ≤ i) ∧ i ≠ b ∧ i < w2.heap.size ∧ ¬ Fr i) := Lib.hid (fun i hi => by
        obtain ⟨h3, h4⟩ := g3 i hi
        rw [alloc_size] at h3
        rcases h3 with h3 | h3
        · exact ⟨.inl (HNL.out i h3).1, (HNL.out i h3).2, h4, fun h5 => HD.out i ⟨h3, h5⟩⟩
        · exact ⟨.inr (by omega), by have := HBb.out; omega, h4, fun h5 => by have := hFs i (HNR.out i h5).1; omega⟩)
      have HTS : Hid (TreeS w2 (fun i => i = b ∨ F' i ∨ Fr i) (some b) (.node m j (putT n k l) r)) := Lib.hid ⟨b, p', pr, F', Fr, _, _, rfl, .inl rfl, g1, g2, TO2.out, fun i hi => ⟨.inr (.inl hi), (HGb.out i hi).2.1⟩, fun i hi => ⟨.inr (.inr hi), (HNR.out i hi).2⟩, fun i hi => (HGb.out i hi.1).2.2.2 hi.2⟩
      have c0 := cellAt (o := 0) HT2.out rfl
      clear g1 g2 g3 g4 CI
      go_wp2_with fail
      refine (level_any HA2.out hc HTS.out (fun i hi e => ?_) (fun i hi => ?_) (by simp only [Tr.all, putT_all] at h1 ⊢; omega) (by have := putT_cnt (n := n) (k := k) l; simp only [Tr.cnt] at h2 ⊢; omega)).mono ?_
      · subst e
        rcases hi with h | h | h
        · exact hab h
        · rcases (HGb.out i h).1 with h | h
          · exact na i h rfl
          · have := HZ.out; omega
        · exact na i (HNR.out i h).1 rfl
      · rcases hi with h | h | h
        · have h8 := HO2.out.size; have := HBb.out; omega
        · exact (HGb.out i h).2.2.1
        · have h8 := HO2.out.size; have := hFs i (HNR.out i h).1; omega
      rintro e w5 ⟨rfl, p5, g1, g2, g3⟩
      have R1 := Lib.hid g1
      have R2 := Lib.hid g2.old
      have R3 : Hid (Only (fun i => i = a ∨ F i) w w5) := Lib.hid ((HO2.out.mono (fun i _ h => h.elim (fun e => .inr (e ▸ HFb.out)) (fun h => .inr (HNL.out i h).1))).then g3 (fun i hi h => by
        rcases h with h | h | h | h
        · exact .inl h
        · exact .inr (h ▸ HFb.out)
        · rcases (HGb.out i h).1 with h | h
          · exact .inr h
          · omega
        · exact .inr (HNR.out i h).1))
      clear g1 g2 g3
      go_wp2_with fail
      go_end0
      refine ⟨rfl, p5, _, R1.out, R2.out, fun i hi => ⟨?_, hi.2⟩, R3.out⟩
      rcases hi.1 with h | h | h
      · exact .inl (h ▸ HFb.out)
      · exact (HGb.out i h).1
      · exact .inl (HNR.out i h).1
    by_cases hgt : m < n
    case pos =>
      have HE : Hid (putT n k (.node m j l r) = levT (.node m j l (putT n k r))) := Lib.hid (by simp only [putT]; rw [if_neg hlt, if_pos hgt])
      rw [HE.out]
      have CI := Lib.hid (@ihr (w.alloc (.cells #[.pointer (some ⟨a, off, none⟩)] 61)) b 5 _ 69 Fr pr HN1.out rfl TR1.out (fun i hi => (HNR.out i hi).2) (fun i hi => by have := hFs i (HNR.out i hi).1; rw [alloc_size]; omega) (by simp only [Tr.all] at h1; omega) (by simp only [Tr.cnt] at h2; omega))
      clear HE ihl ihr
      go_enter Try.func28, Try.ntmps28
      go_wp2_with fail
      refine CI.out.mono ?_
      rintro e w2 ⟨rfl, p', F', g1, g2, g3, g4⟩
      have TO2 := Lib.hid (TL1.out.keep g4 (fun i hi _ h => h.elim (HNL.out i hi).2 (fun h => HD.out i ⟨hi, h⟩)))
      have HA2 := Lib.hid (g4.get HA1.out (fun h => h.elim hab (fun h => na a (HNR.out a h).1 rfl)))
      have HT2 := Lib.hid (g4.get HT0.out (fun h => h.elim (fun e => by have := HBb.out; omega) (fun h => by have := hFs _ (HNR.out _ h).1; omega)))
      have HG3 := Lib.hid g3
      have HO2 := Lib.hid ((Only.of_below HB0.out).trans g4)
      have HGb : Hid (∀ i, F' i → (F i ∨ w.heap.size ≤ i) ∧ i ≠ b ∧ i < w2.heap.size ∧ ¬ Fl i) := Lib.hid (fun i hi => by
        obtain ⟨h3, h4⟩ := g3 i hi
        rw [alloc_size] at h3
        rcases h3 with h3 | h3
        · exact ⟨.inl (HNR.out i h3).1, (HNR.out i h3).2, h4, fun h5 => HD.out i ⟨h5, h3⟩⟩
        · exact ⟨.inr (by omega), by have := HBb.out; omega, h4, fun h5 => by have := hFs i (HNL.out i h5).1; omega⟩)
      have HTS : Hid (TreeS w2 (fun i => i = b ∨ F' i ∨ Fl i) (some b) (.node m j l (putT n k r))) := Lib.hid ⟨b, pl, p', Fl, F', _, _, rfl, .inl rfl, g1, TO2.out, g2, fun i hi => ⟨.inr (.inr hi), (HNL.out i hi).2⟩, fun i hi => ⟨.inr (.inl hi), (HGb.out i hi).2.1⟩, fun i hi => (HGb.out i hi.2).2.2.2 hi.1⟩
      have c0 := cellAt (o := 0) HT2.out rfl
      clear g1 g2 g3 g4 CI
      go_wp2_with fail
      refine (level_any HA2.out hc HTS.out (fun i hi e => ?_) (fun i hi => ?_) (by simp only [Tr.all, putT_all] at h1 ⊢; omega) (by have := putT_cnt (n := n) (k := k) r; simp only [Tr.cnt] at h2 ⊢; omega)).mono ?_
      · subst e
        rcases hi with h | h | h
        · exact hab h
        · rcases (HGb.out i h).1 with h | h
          · exact na i h rfl
          · have := HZ.out; omega
        · exact na i (HNL.out i h).1 rfl
      · rcases hi with h | h | h
        · have h8 := HO2.out.size; have := HBb.out; omega
        · exact (HGb.out i h).2.2.1
        · have h8 := HO2.out.size; have := hFs i (HNL.out i h).1; omega
      rintro e w5 ⟨rfl, p5, g1, g2, g3⟩
      have R1 := Lib.hid g1
      have R2 := Lib.hid g2.old
      have R3 : Hid (Only (fun i => i = a ∨ F i) w w5) := Lib.hid ((HO2.out.mono (fun i _ h => h.elim (fun e => .inr (e ▸ HFb.out)) (fun h => .inr (HNR.out i h).1))).then g3 (fun i hi h => by
        rcases h with h | h | h | h
        · exact .inl h
        · exact .inr (h ▸ HFb.out)
        · rcases (HGb.out i h).1 with h | h
          · exact .inr h
          · omega
        · exact .inr (HNL.out i h).1))
      clear g1 g2 g3
      go_wp2_with fail
      go_end0
      refine ⟨rfl, p5, _, R1.out, R2.out, fun i hi => ⟨?_, hi.2⟩, R3.out⟩
      rcases hi.1 with h | h | h
      · exact .inl (h ▸ HFb.out)
      · exact (HGb.out i h).1
      · exact .inl (HNL.out i h).1
    have HE : Hid (putT n k (.node m j l r) = levT (.node m (j + k) l r)) := Lib.hid (by simp only [putT]; rw [if_neg hlt, if_neg hgt])
    rw [HE.out]
    have hw : IntKind.i64.wrap ((j : Int) + (k : Int)) = (j : Int) + k := by simp only [Tr.all] at h1; rw [IntKind.wrap_i64]; omega
    have j1 := cellAt (o := 1) HN1.out rfl
    have f1 := freeAt 1 HN1.out
    have hO := Only.set (w.alloc (.cells #[.pointer (some ⟨a, off, none⟩)] 61)) b 1 (.int .i64 ((j : Int) + k))
    have HNf := Lib.hid (set_at (off := 1) (u := .int .i64 ((j : Int) + k)) HN1.out)
    have HAf := Lib.hid (hO.get HA1.out hab)
    have HTf := Lib.hid (hO.get HT0.out (fun e => by have := HBb.out; omega))
    have TLf := Lib.hid (TL1.out.keep hO (fun i hi _ e => (HNL.out i hi).2 e))
    have TRf := Lib.hid (TR1.out.keep hO (fun i hi _ e => (HNR.out i hi).2 e))
    have HOf := Lib.hid ((Only.of_below HB0.out).trans hO : Only (fun i => i = b) w _)
    have e0 := cellAt (o := 0) HTf.out rfl
    clear HE ihl ihr hO
    go_enter Try.func28, Try.ntmps28
    go_wp2_with fail
    generalize (World.setCell _ ⟨b, 1, none⟩ _) = W2 at *
    have HTS : Hid (TreeS W2 F (some b) (.node m (j + k) l r)) := Lib.hid ⟨b, pl, pr, Fl, Fr, _, _, rfl, HFb.out, HNf.out, TLf.out, TRf.out, HNL.out, HNR.out, HD.out⟩
    refine (level_any HAf.out hc HTS.out na (fun i hi => Nat.lt_of_lt_of_le (hFs i hi) HOf.out.size) (by simp only [Tr.all] at h1 ⊢; omega) (by simp only [Tr.cnt] at h2 ⊢; omega)).mono ?_
    rintro e w5 ⟨rfl, p5, g1, g2, g3⟩
    have R1 := Lib.hid g1
    have R2 := Lib.hid g2.old
    have R3 : Hid (Only (fun i => i = a ∨ F i) w w5) := Lib.hid ((HOf.out.mono (fun i _ e => .inr (e ▸ HFb.out))).trans g3)
    clear g1 g2 g3
    go_wp2_with fail
    go_end0
    exact ⟨rfl, p5, _, R1.out, R2.out, fun i hi => ⟨.inl hi.1, hi.2⟩, R3.out⟩
end Go.Proofs.Ytjcbikkihijkiaa
