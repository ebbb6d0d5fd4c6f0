/- A bag's tree: turn. -/
import Derived.Test.YtjcbikkihijkiaaBgM
namespace Go.Proofs.Ytjcbikkihijkiaa
open Go.RowKit
/-- A cell of a block, stored. -/
theorem set_at {w : World} {a off : Nat} {cs : Array Value} {t : TypeId} {u : Value} (h : w.heap[a]? = some (.cells cs t (0, 0))) : (w.setCell ⟨a, off, none⟩ u).heap[a]? = some (.cells (cs.setIfInBounds off u) t (0, 0)) := setCell_get h
set_option maxHeartbeats 4000000 in
set_option maxRecDepth 100000 in
theorem turn_l {w : World} {a off x y : Nat} {cs : Array Value} {t : TypeId} {n m a1 v1 a2 v2 : Int} {k j : Nat} {pa pb pr : Option Nat} {Fa Fb Fr : Nat → Prop} {A B R : Tr}
    (h : w.heap[a]? = some (.cells cs t (0, 0))) (hc : cs[off]? = some (.pointer (some ⟨x, 0, none⟩))) (hx : NodeW w x n k a1 v1 (some y) pr) (hy : NodeW w y m j a2 v2 pa pb)
    (ta : TreeW w Fa pa A) (tb : TreeW w Fb pb B) (tr : TreeW w Fr pr R) (hax : a ≠ x) (hay : a ≠ y) (hxy : x ≠ y)
    (na : ∀ i, Fa i → i ≠ a ∧ i ≠ x ∧ i ≠ y) (nb : ∀ i, Fb i → i ≠ a ∧ i ≠ x ∧ i ≠ y) (nr : ∀ i, Fr i → i ≠ a ∧ i ≠ x ∧ i ≠ y) (hab : ∀ i, ¬ (Fa i ∧ Fb i)) (har : ∀ i, ¬ (Fa i ∧ Fr i)) (hbr : ∀ i, ¬ (Fb i ∧ Fr i))
    (h1 : (Tr.node m j A (.node n k B R)).all ≤ 1099511627776) (h2 : (Tr.node m j A (.node n k B R)).cnt ≤ 1099511627776) :
    Calls Try.prog 68 #[.agg #[.pointer (some ⟨a, off, none⟩)], .bool true] w fun e w' => e = .returned (.tuple #[]) ∧ w'.heap[a]? = some (.cells (cs.setIfInBounds off (.pointer (some ⟨y, 0, none⟩))) t (0, 0)) ∧
      TreeW w' (fun i => i = x ∨ i = y ∨ Fa i ∨ Fb i ∨ Fr i) (some y) (.node m j A (.node n k B R)) ∧ Only (fun i => i = a ∨ i = x ∨ i = y) w w' := by
  have hb0 := below_alloc (Below.refl w.heap.size w) (.cells #[.pointer (some ⟨a, off, none⟩)] 61)
  have HT0 := Lib.hid (newB w (.cells #[.pointer (some ⟨a, off, none⟩)] 61))
  have HA := Lib.hid (keepB h hb0)
  have HX := Lib.hid (show (w.alloc _).heap[x]? = _ from keepB hx hb0)
  have HY := Lib.hid (show (w.alloc _).heap[y]? = _ from keepB hy hb0)
  have TA := Lib.hid (ta.below hb0)
  have TB := Lib.hid (tb.below hb0)
  have TR := Lib.hid (tr.below hb0)
  have HZ : Hid (a < w.heap.size ∧ x < w.heap.size ∧ y < w.heap.size) := Lib.hid ⟨only_lt h, only_lt hx, only_lt hy⟩
  have HB0 := Lib.hid hb0
  have c0 := cellAt (o := 0) HT0.out rfl
  have ca := cellAt HA.out hc
  have x4 := cellAt (o := 4) HX.out rfl
  have y5 := cellAt (o := 5) HY.out rfl
  have fx := freeAt 4 HX.out
  have fy := freeAt 5 HY.out
  unfold pv pq at x4
  simp only [] at x4
  clear h hx hy hb0 ta tb tr
  go_enter Try.func68, Try.ntmps68
  go_wp2_with fail
  have hO1 : Only (fun i => i = x ∨ i = y) (w.alloc (.cells #[.pointer (some ⟨a, off, none⟩)] 61)) (((w.alloc (.cells #[.pointer (some ⟨a, off, none⟩)] 61)).setCell ⟨x, 4, none⟩ (.pointer (pq pb))).setCell ⟨y, 5, none⟩ (.pointer (some ⟨x, 0, none⟩))) :=
    ((Only.set _ x 4 _).mono (fun _ _ h => .inl h)).trans ((Only.set _ y 5 _).mono (fun _ _ h => .inr h))
  have HX2 := Lib.hid (setCell_other (u := .pointer (some ⟨x, 0, none⟩)) (b' := y) (o := 5) (set_at (off := 4) (u := .pointer (pq pb)) HX.out) hxy)
  have HY2 := Lib.hid (set_at (off := 5) (u := .pointer (some ⟨x, 0, none⟩)) (setCell_other (u := .pointer (pq pb)) (b' := x) (o := 4) HY.out (Ne.symm hxy)))
  have HA2 := Lib.hid (hO1.get HA.out (fun h => h.elim hax hay))
  have HT2 := Lib.hid (hO1.get HT0.out (fun h => by have := HZ.out; omega))
  have TA2 := Lib.hid (TA.out.keep hO1 (fun i hi _ h => h.elim (na i hi).2.1 (na i hi).2.2))
  have TB2 := Lib.hid (TB.out.keep hO1 (fun i hi _ h => h.elim (nb i hi).2.1 (nb i hi).2.2))
  have TR2 := Lib.hid (TR.out.keep hO1 (fun i hi _ h => h.elim (nr i hi).2.1 (nr i hi).2.2))
  have HO2 : Hid (Only (fun i => i = x ∨ i = y) w _) := Lib.hid ((Only.of_below HB0.out).trans hO1)
  clear hO1 x4 y5 fx fy ca c0
  generalize (World.setCell (World.setCell _ _ _) _ _) = W2 at *
  have hbound : (Tr.node n k B R).all ≤ 1099511627776 ∧ (Tr.node n k B R).cnt ≤ 1099511627776 := by simp only [Tr.all, Tr.cnt] at h1 h2 ⊢; omega
  refine (tell_any (show NodeW W2 x n k a1 v1 pb pr from HX2.out) TB2.out TR2.out (fun h => (nb x h).2.1 rfl) (fun h => (nr x h).2.1 rfl) hbound.1 hbound.2).mono ?_
  rintro e w3 ⟨rfl, hn3, ho3⟩
  have TX3 : Hid (TreeW w3 (fun i => i = x ∨ Fb i ∨ Fr i) (some x) (.node n k B R)) := Lib.hid ⟨x, pb, pr, Fb, Fr, rfl, .inl rfl, hn3, TB2.out.keep ho3 (fun i hi _ h => (nb i hi).2.1 h), TR2.out.keep ho3 (fun i hi _ h => (nr i hi).2.1 h), fun i hi => ⟨.inr (.inl hi), (nb i hi).2.1⟩, fun i hi => ⟨.inr (.inr hi), (nr i hi).2.1⟩, hbr⟩
  have TA3 := Lib.hid (TA2.out.keep ho3 (fun i hi _ h => (na i hi).2.1 h))
  have HY3 := Lib.hid (ho3.get HY2.out (Ne.symm hxy))
  have HA3 := Lib.hid (ho3.get HA2.out hax)
  have HT3 := Lib.hid (ho3.get HT2.out (by have := HZ.out; omega))
  have HO3 := Lib.hid (HO2.out.trans (ho3.mono (fun _ _ h => .inl h)))
  clear hn3 ho3 HX2 HY2 HA2 HT2 TA2 TB2 TR2 HO2 hbound
  go_wp2_with fail
  refine (tell_any (show NodeW w3 y m j a2 v2 pa (some x) from HY3.out) TA3.out TX3.out (fun h => (na y h).2.2 rfl) (fun h => h.elim (Ne.symm hxy) (fun h => h.elim (fun h => (nb y h).2.2 rfl) (fun h => (nr y h).2.2 rfl))) h1 h2).mono ?_
  rintro e w4 ⟨rfl, hn4, ho4⟩
  have TY4 : Hid (TreeW w4 (fun i => i = x ∨ i = y ∨ Fa i ∨ Fb i ∨ Fr i) (some y) (.node m j A (.node n k B R))) := Lib.hid ⟨y, pa, some x, Fa, (fun i => i = x ∨ Fb i ∨ Fr i), rfl, .inr (.inl rfl), hn4, TA3.out.keep ho4 (fun i hi _ h => (na i hi).2.2 h), TX3.out.keep ho4 (fun i hi _ h => hi.elim (fun e => hxy (e ▸ h)) (fun hi => hi.elim (fun hi => (nb i hi).2.2 h) (fun hi => (nr i hi).2.2 h))),
    fun i hi => ⟨.inr (.inr (.inl hi)), (na i hi).2.2⟩, fun i hi => hi.elim (fun e => ⟨.inl e, fun h => hxy (e ▸ h)⟩) (fun hi => hi.elim (fun hi => ⟨.inr (.inr (.inr (.inl hi))), (nb i hi).2.2⟩) (fun hi => ⟨.inr (.inr (.inr (.inr hi))), (nr i hi).2.2⟩)),
    fun i hi => hi.2.elim (fun e => (na i hi.1).2.1 e) (fun h => h.elim (fun h => hab i ⟨hi.1, h⟩) (fun h => har i ⟨hi.1, h⟩))⟩
  have HA4 := Lib.hid (ho4.get HA3.out hay)
  have HT4 := Lib.hid (ho4.get HT3.out (by have := HZ.out; omega))
  have HO4 := Lib.hid (HO3.out.trans (ho4.mono (fun _ _ h => .inr h)))
  clear hn4 ho4 TA3 TX3 HY3 HA3 HT3 HO3
  have c0 := cellAt (o := 0) HT4.out rfl
  have ca := cellAt HA4.out hc
  have fa := freeAt off HA4.out
  have hoS := Only.set w4 a off (.pointer (some ⟨y, 0, none⟩))
  have HAF := Lib.hid (set_at (off := off) (u := .pointer (some ⟨y, 0, none⟩)) HA4.out)
  have TYF := Lib.hid (TY4.out.keep hoS (fun i hi _ e => by
    rcases hi with h | h | h | h | h
    · exact hax (e.symm.trans h)
    · exact hay (e.symm.trans h)
    · exact (na i h).1 e
    · exact (nb i h).1 e
    · exact (nr i h).1 e))
  have HOF : Hid (Only (fun i => i = a ∨ i = x ∨ i = y) w (w4.setCell ⟨a, off, none⟩ (.pointer (some ⟨y, 0, none⟩)))) := Lib.hid ((HO4.out.mono (fun _ _ h => .inr h)).trans (hoS.mono (fun _ _ h => .inl h)))
  clear hoS
  go_wp2_with fail
  exact bodyPost_ret (v := .tuple #[]) (by simp only [results, Try.results68]; go_simp) rfl ⟨rfl, HAF.out, TYF.out, HOF.out⟩
set_option maxHeartbeats 4000000 in
set_option maxRecDepth 100000 in
theorem turn_r {w : World} {a off x y : Nat} {cs : Array Value} {t : TypeId} {n m a1 v1 a2 v2 : Int} {k j : Nat} {pa pb pl : Option Nat} {Fa Fb Fl : Nat → Prop} {A B L : Tr}
    (h : w.heap[a]? = some (.cells cs t (0, 0))) (hc : cs[off]? = some (.pointer (some ⟨x, 0, none⟩))) (hx : NodeW w x n k a1 v1 pl (some y)) (hy : NodeW w y m j a2 v2 pa pb)
    (ta : TreeW w Fa pa A) (tb : TreeW w Fb pb B) (tl : TreeW w Fl pl L) (hax : a ≠ x) (hay : a ≠ y) (hxy : x ≠ y)
    (na : ∀ i, Fa i → i ≠ a ∧ i ≠ x ∧ i ≠ y) (nb : ∀ i, Fb i → i ≠ a ∧ i ≠ x ∧ i ≠ y) (nl : ∀ i, Fl i → i ≠ a ∧ i ≠ x ∧ i ≠ y) (hab : ∀ i, ¬ (Fa i ∧ Fb i)) (hal : ∀ i, ¬ (Fl i ∧ Fa i)) (hbl : ∀ i, ¬ (Fl i ∧ Fb i))
    (h1 : (Tr.node m j (.node n k L A) B).all ≤ 1099511627776) (h2 : (Tr.node m j (.node n k L A) B).cnt ≤ 1099511627776) :
    Calls Try.prog 68 #[.agg #[.pointer (some ⟨a, off, none⟩)], .bool false] w fun e w' => e = .returned (.tuple #[]) ∧ w'.heap[a]? = some (.cells (cs.setIfInBounds off (.pointer (some ⟨y, 0, none⟩))) t (0, 0)) ∧
      TreeW w' (fun i => i = x ∨ i = y ∨ Fa i ∨ Fb i ∨ Fl i) (some y) (.node m j (.node n k L A) B) ∧ Only (fun i => i = a ∨ i = x ∨ i = y) w w' := by
  have hb0 := below_alloc (Below.refl w.heap.size w) (.cells #[.pointer (some ⟨a, off, none⟩)] 61)
  have HT0 := Lib.hid (newB w (.cells #[.pointer (some ⟨a, off, none⟩)] 61))
  have HA := Lib.hid (keepB h hb0)
  have HX := Lib.hid (show (w.alloc _).heap[x]? = _ from keepB hx hb0)
  have HY := Lib.hid (show (w.alloc _).heap[y]? = _ from keepB hy hb0)
  have TA := Lib.hid (ta.below hb0)
  have TB := Lib.hid (tb.below hb0)
  have TL := Lib.hid (tl.below hb0)
  have HZ : Hid (a < w.heap.size ∧ x < w.heap.size ∧ y < w.heap.size) := Lib.hid ⟨only_lt h, only_lt hx, only_lt hy⟩
  have HB0 := Lib.hid hb0
  have c0 := cellAt (o := 0) HT0.out rfl
  have ca := cellAt HA.out hc
  have x5 := cellAt (o := 5) HX.out rfl
  have y4 := cellAt (o := 4) HY.out rfl
  have fx := freeAt 5 HX.out
  have fy := freeAt 4 HY.out
  unfold pv pq at x5
  simp only [] at x5
  clear h hx hy hb0 ta tb tl
  go_enter Try.func68, Try.ntmps68
  go_wp2_with fail
  have hO1 : Only (fun i => i = x ∨ i = y) (w.alloc (.cells #[.pointer (some ⟨a, off, none⟩)] 61)) (((w.alloc (.cells #[.pointer (some ⟨a, off, none⟩)] 61)).setCell ⟨x, 5, none⟩ (.pointer (pq pa))).setCell ⟨y, 4, none⟩ (.pointer (some ⟨x, 0, none⟩))) :=
    ((Only.set _ x 5 _).mono (fun _ _ h => .inl h)).trans ((Only.set _ y 4 _).mono (fun _ _ h => .inr h))
  have HX2 := Lib.hid (setCell_other (u := .pointer (some ⟨x, 0, none⟩)) (b' := y) (o := 4) (set_at (off := 5) (u := .pointer (pq pa)) HX.out) hxy)
  have HY2 := Lib.hid (set_at (off := 4) (u := .pointer (some ⟨x, 0, none⟩)) (setCell_other (u := .pointer (pq pa)) (b' := x) (o := 5) HY.out (Ne.symm hxy)))
  have HA2 := Lib.hid (hO1.get HA.out (fun h => h.elim hax hay))
  have HT2 := Lib.hid (hO1.get HT0.out (fun h => by have := HZ.out; omega))
  have TA2 := Lib.hid (TA.out.keep hO1 (fun i hi _ h => h.elim (na i hi).2.1 (na i hi).2.2))
  have TB2 := Lib.hid (TB.out.keep hO1 (fun i hi _ h => h.elim (nb i hi).2.1 (nb i hi).2.2))
  have TL2 := Lib.hid (TL.out.keep hO1 (fun i hi _ h => h.elim (nl i hi).2.1 (nl i hi).2.2))
  have HO2 : Hid (Only (fun i => i = x ∨ i = y) w _) := Lib.hid ((Only.of_below HB0.out).trans hO1)
  clear hO1 x5 y4 fx fy ca c0
  generalize (World.setCell (World.setCell _ _ _) _ _) = W2 at *
  have hbound : (Tr.node n k L A).all ≤ 1099511627776 ∧ (Tr.node n k L A).cnt ≤ 1099511627776 := by simp only [Tr.all, Tr.cnt] at h1 h2 ⊢; omega
  refine (tell_any (show NodeW W2 x n k a1 v1 pl pa from HX2.out) TL2.out TA2.out (fun h => (nl x h).2.1 rfl) (fun h => (na x h).2.1 rfl) hbound.1 hbound.2).mono ?_
  rintro e w3 ⟨rfl, hn3, ho3⟩
  have TX3 : Hid (TreeW w3 (fun i => i = x ∨ Fl i ∨ Fa i) (some x) (.node n k L A)) := Lib.hid ⟨x, pl, pa, Fl, Fa, rfl, .inl rfl, hn3, TL2.out.keep ho3 (fun i hi _ h => (nl i hi).2.1 h), TA2.out.keep ho3 (fun i hi _ h => (na i hi).2.1 h), fun i hi => ⟨.inr (.inl hi), (nl i hi).2.1⟩, fun i hi => ⟨.inr (.inr hi), (na i hi).2.1⟩, hal⟩
  have TB3 := Lib.hid (TB2.out.keep ho3 (fun i hi _ h => (nb i hi).2.1 h))
  have HY3 := Lib.hid (ho3.get HY2.out (Ne.symm hxy))
  have HA3 := Lib.hid (ho3.get HA2.out hax)
  have HT3 := Lib.hid (ho3.get HT2.out (by have := HZ.out; omega))
  have HO3 := Lib.hid (HO2.out.trans (ho3.mono (fun _ _ h => .inl h)))
  clear hn3 ho3 HX2 HY2 HA2 HT2 TA2 TB2 TL2 HO2 hbound
  go_wp2_with fail
  refine (tell_any (show NodeW w3 y m j a2 v2 (some x) pb from HY3.out) TX3.out TB3.out (fun h => h.elim (Ne.symm hxy) (fun h => h.elim (fun h => (nl y h).2.2 rfl) (fun h => (na y h).2.2 rfl))) (fun h => (nb y h).2.2 rfl) h1 h2).mono ?_
  rintro e w4 ⟨rfl, hn4, ho4⟩
  have TY4 : Hid (TreeW w4 (fun i => i = x ∨ i = y ∨ Fa i ∨ Fb i ∨ Fl i) (some y) (.node m j (.node n k L A) B)) := Lib.hid ⟨y, some x, pb, (fun i => i = x ∨ Fl i ∨ Fa i), Fb, rfl, .inr (.inl rfl), hn4, TX3.out.keep ho4 (fun i hi _ h => hi.elim (fun e => hxy (e ▸ h)) (fun hi => hi.elim (fun hi => (nl i hi).2.2 h) (fun hi => (na i hi).2.2 h))), TB3.out.keep ho4 (fun i hi _ h => (nb i hi).2.2 h),
    fun i hi => hi.elim (fun e => ⟨.inl e, fun h => hxy (e ▸ h)⟩) (fun hi => hi.elim (fun hi => ⟨.inr (.inr (.inr (.inr hi))), (nl i hi).2.2⟩) (fun hi => ⟨.inr (.inr (.inl hi)), (na i hi).2.2⟩)), fun i hi => ⟨.inr (.inr (.inr (.inl hi))), (nb i hi).2.2⟩,
    fun i hi => hi.1.elim (fun e => (nb i hi.2).2.1 e) (fun h => h.elim (fun h => hbl i ⟨h, hi.2⟩) (fun h => hab i ⟨h, hi.2⟩))⟩
  have HA4 := Lib.hid (ho4.get HA3.out hay)
  have HT4 := Lib.hid (ho4.get HT3.out (by have := HZ.out; omega))
  have HO4 := Lib.hid (HO3.out.trans (ho4.mono (fun _ _ h => .inr h)))
  clear hn4 ho4 TB3 TX3 HY3 HA3 HT3 HO3
  have c0 := cellAt (o := 0) HT4.out rfl
  have ca := cellAt HA4.out hc
  have fa := freeAt off HA4.out
  have hoS := Only.set w4 a off (.pointer (some ⟨y, 0, none⟩))
  have HAF := Lib.hid (set_at (off := off) (u := .pointer (some ⟨y, 0, none⟩)) HA4.out)
  have TYF := Lib.hid (TY4.out.keep hoS (fun i hi _ e => by
    rcases hi with h | h | h | h | h
    · exact hax (e.symm.trans h)
    · exact hay (e.symm.trans h)
    · exact (na i h).1 e
    · exact (nb i h).1 e
    · exact (nl i h).1 e))
  have HOF : Hid (Only (fun i => i = a ∨ i = x ∨ i = y) w (w4.setCell ⟨a, off, none⟩ (.pointer (some ⟨y, 0, none⟩)))) := Lib.hid ((HO4.out.mono (fun _ _ h => .inr h)).trans (hoS.mono (fun _ _ h => .inl h)))
  clear hoS
  go_wp2_with fail
  go_end0
  exact ⟨rfl, HAF.out, TYF.out, HOF.out⟩
end Go.Proofs.Ytjcbikkihijkiaa
