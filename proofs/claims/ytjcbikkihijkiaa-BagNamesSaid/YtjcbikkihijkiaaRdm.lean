/- A reader of bytes that was made: contracts of its methods. -/
import Derived.Test.YtjcbikkihijkiaaRdr
namespace Go.Proofs.Ytjcbikkihijkiaa
open Go.RowKit
/-- The reader at block r is in the state s; it goes by memory in F. -/
def RdrW (w : World) (F : Nat → Prop) (r : Nat) (s : Rst) : Prop := ∃ A c, w.heap[r]? = some (.cells #[.slice A s.1.length c, .int .i64 s.2, .bool true] 93 (0, 0)) ∧
  s.1.length ≤ c ∧ c ≤ maxLen ∧ s.1.length ≤ 1099511000000 ∧ Rd w A s.1 ∧ F r ∧ ∀ ad, A = some ad → F ad.block ∧ ad.block ≠ r ∧ ad.block < w.heap.size
section
variable {w w' : World} {F G S : Nat → Prop} {r : Nat} {s : Rst}
theorem RdrW.lt (h : RdrW w F r s) : r < w.heap.size := by
  obtain ⟨A, c, h1, _⟩ := h; exact only_lt h1
theorem RdrW.keep (h : RdrW w F r s) (ho : Only S w w') (hn : ∀ k, F k → k < w.heap.size → ¬ S k) : RdrW w' F r s := by
  have hl := h.lt
  obtain ⟨A, c, h1, h2, h3, h4, h5, h6, h7⟩ := h
  exact ⟨A, c, ho.get h1 (hn _ h6 hl), h2, h3, h4, ho.rd h5 (fun ad e => hn _ (h7 ad e).1 (h7 ad e).2.2), h6, fun ad e => ⟨(h7 ad e).1, (h7 ad e).2.1, Nat.lt_of_lt_of_le (h7 ad e).2.2 ho.size⟩⟩
theorem RdrW.weak (h : RdrW w F r s) (hG : ∀ k, F k → G k) : RdrW w G r s := by
  obtain ⟨A, c, h1, h2, h3, h4, h5, h6, h7⟩ := h
  exact ⟨A, c, h1, h2, h3, h4, h5, hG _ h6, fun ad e => ⟨hG _ (h7 ad e).1, (h7 ad e).2⟩⟩
theorem RdrW.old (h : RdrW w F r s) : RdrW w (fun k => F k ∧ k < w.heap.size) r s := by
  have hl := h.lt
  obtain ⟨A, c, h1, h2, h3, h4, h5, h6, h7⟩ := h
  exact ⟨A, c, h1, h2, h3, h4, h5, ⟨h6, hl⟩, fun ad e => ⟨⟨(h7 ad e).1, (h7 ad e).2.2⟩, (h7 ad e).2⟩⟩
theorem RdrW.alloc (h : RdrW w F r s) (o : Obj) : RdrW (w.alloc o) F r s := h.keep (S := fun _ => False) ((Only.refl _ _).alloc o) (fun _ _ _ h => h)
theorem RdrW.below (h : RdrW w F r s) (hb : Below w.heap.size w w') : RdrW w' F r s := h.keep (S := fun _ => False) (Only.of_below hb) (fun _ _ _ h => h)
end
set_option maxRecDepth 100000 in
theorem try_stopped (r : Nat) (V : Value) {F : Nat → Prop} (s : Rst) (hs : s.2 ≠ 0) (w : World) (h : RdrW w F r s) :
    Calls Try.prog 62 #[ptrTo r, V] w fun e w' => e = .returned (.bool false) ∧ w = w' := by
  obtain ⟨A, c, h1, _⟩ := h
  have e1 : (s.2 != 0) = true := by rw [bne_iff_ne]; exact hs
  have k1 := cellAt (o := 1) h1 rfl
  have k2 := cellAt (o := 2) h1 rfl
  unfold ptrTo
  go_enter Try.func62, Try.ntmps62
  go_wp2_with fail
  go_ret
  exact ⟨rfl, rfl⟩
theorem rdr_adv {w : World} {r : Nat} {l : List UInt8} {A A' : Option Addr} {c n d : Nat} (h : w.heap[r]? = some (.cells #[.slice A l.length c, .int .i64 0, .bool true] 93 (0, 0))) (h2 : l.length ≤ c) (h3 : c ≤ maxLen) (h4 : l.length ≤ 1099511000000) (h5 : Rd w A l)
    {F : Nat → Prop} (h0 : F r) (h6 : ∀ ad, A = some ad → F ad.block ∧ ad.block ≠ r ∧ ad.block < w.heap.size) (hn : n ≤ l.length) (hA : A' = if c = n then A else A.map (·.add n)) (hd : d = c - n) : RdrW (w.setCell ⟨r, 0, none⟩ (.slice A' (l.length - n) d)) F r (l.drop n, 0) := by
  subst hd
  have ho : Only (fun k => k = r) w (w.setCell ⟨r, 0, none⟩ (.slice A' (l.length - n) (c - n))) := Only.set _ _ _ _
  have h7 := ho.rd h5 (fun ad e => (h6 ad e).2.1)
  have hz : (w.setCell ⟨r, 0, none⟩ (.slice A' (l.length - n) (c - n))).heap.size = w.heap.size := by simp [World.setCell]
  have h8 := Reads.cut (k := n) (cap := c) h7 hn h2
  rw [Nat.mul_one, ← hA] at h8
  refine ⟨A', c - n, ?_, ?_, by omega, by simp; omega, ?_, h0, fun ad e => ?_⟩
  · rw [setCell_get h, List.length_drop]; rfl
  · simp; omega
  · unfold Rd; rw [List.length_drop, List.map_drop]; exact h8
  · rw [hA] at e
    rw [hz]
    split at e
    · exact h6 ad e
    · cases A with
      | none => cases e
      | some a =>
        simp only [Option.map_some, Option.some.injEq] at e
        rw [← e, block_of_add]; exact h6 a rfl
theorem rdr_err {w : World} {r : Nat} {l : List UInt8} {A : Option Addr} {c : Nat} {er x : Int} (h : w.heap[r]? = some (.cells #[.slice A l.length c, .int .i64 x, .bool true] 93 (0, 0))) (h2 : l.length ≤ c) (h3 : c ≤ maxLen) (h4 : l.length ≤ 1099511000000) (h5 : Rd w A l)
    {F : Nat → Prop} (h0 : F r) (h6 : ∀ ad, A = some ad → F ad.block ∧ ad.block ≠ r ∧ ad.block < w.heap.size) : RdrW (w.setCell ⟨r, 1, none⟩ (.int .i64 er)) F r (l, er) := by
  have ho : Only (fun k => k = r) w (w.setCell ⟨r, 1, none⟩ (.int .i64 er)) := Only.set _ _ _ _
  refine ⟨A, c, ?_, h2, h3, h4, ho.rd h5 (fun ad e => (h6 ad e).2.1), h0, fun ad e => ⟨(h6 ad e).1, (h6 ad e).2.1, Nat.lt_of_lt_of_le (h6 ad e).2.2 ho.size⟩⟩
  rw [setCell_get h]; rfl
/-- What a try leaves: what was read left R; of the reader's state. -/
def TryP (F : Nat → Prop) (r b : Nat) (s : Rst) (n : Nat) (er : Int) (R : World → Prop) (w : World) (e : Ending) (w' : World) : Prop :=
  e = .returned (.bool (er == 0)) ∧ RdrW w' F r (if er = 0 then (s.1.drop n, 0) else (s.1, er)) ∧ (∃ w1, R w1 ∧ Only (fun k => k = r) w1 w') ∧ Only (fun k => k = r ∨ k = b) w w'
theorem TryP.of {F : Nat → Prop} {r b : Nat} {l : List UInt8} {n : Nat} {er : Int} {R : World → Prop} {w w1 w' : World} {e : Ending} {q : Bool} (he : e = .returned (.bool q)) (hq : q = (er == 0)) (h1 : RdrW w' F r (if er = 0 then (l.drop n, 0) else (l, er))) (h2 : R w1) (h3 : Only (fun k => k = r) w1 w') (h4 : Only (fun k => k = b) w w1) : TryP F r b (l, 0) n er R w e w' :=
  ⟨by rw [he, hq], h1, ⟨w1, h2, h3⟩, (h4.mono (fun _ _ h => .inr h)).then h3 (fun _ _ h => .inl h)⟩
set_option maxRecDepth 100000 in
theorem try_made (fn : Nat) (cv : Value) {F : Nat → Prop} (r b : Nat) (l : List UInt8) (w : World) (n : Nat) (er : Int) (R : World → Prop) (hn : n ≤ l.length) (h : RdrW w F r (l, 0)) (hbr : ¬ F b) (hcf : ∀ args, Sem.run Try.prog (callFunc fn args) w = .ok (.enter fn args) w)
    (hF : ∀ A c, Rd w A l → l.length ≤ 1099511000000 → Calls Try.prog fn #[.slice A l.length c, cv] w (fun e w' => e = .returned (.tuple #[.int .i64 n, .int .i64 er]) ∧ R w' ∧ Only (fun k => k = b) w w')) :
    Calls Try.prog 62 #[ptrTo r, .func (.func fn) #[] #[cv]] w (TryP F r b (l, 0) n er R w) := by
  obtain ⟨A, c, h1, h2, h3, h4, h5, h0, h6⟩ := h
  have hbr' : r ≠ b := fun e => hbr (e ▸ h0)
  have HF := Lib.hid (hF A c h5 h4)
  have H1 := Lib.hid h1
  have HB : Hid (∀ ad, A = some ad → ad.block ≠ b) := Lib.hid (fun ad e h => hbr (h ▸ (h6 ad e).1))
  clear hF
  have k0 := cellAt (o := 0) h1 rfl
  have k1 := cellAt (o := 1) h1 rfl
  have k2 := cellAt (o := 2) h1 rfl
  have H6 := Lib.hid h6
  have H5 := Lib.hid h5
  have H3 := Lib.hid h3
  clear h1 h5 h6
  unfold maxLen at h3
  unfold ptrTo
  go_enter Try.func62, Try.ntmps62
  go_wp2_with fail
  refine HF.out.mono ?_
  rintro e w1 ⟨rfl, hR, ho⟩
  have HO := Lib.hid ho
  have HR := Lib.hid hR
  have hg := ho.get H1.out hbr'
  have HG := Lib.hid hg
  clear k0 k1 k2 hR ho
  have k0 := cellAt (o := 0) hg rfl
  have k1 := cellAt (o := 1) hg rfl
  have f0 := freeAt 0 hg
  have f1 := freeAt 1 hg
  clear hg hcf
  have H5' := Lib.hid (HO.out.rd H5.out (fun ad e => HB.out ad e))
  have H6' : Hid (∀ ad, A = some ad → F ad.block ∧ ad.block ≠ r ∧ ad.block < w1.heap.size) := Lib.hid (fun ad e => ⟨(H6.out ad e).1, (H6.out ad e).2.1, Nat.lt_of_lt_of_le (H6.out ad e).2.2 HO.out.size⟩)
  by_cases he : er = 0
  · have e1 : (er != 0) = false := by simp [he]
    by_cases hc : c = n
    all_goals
      go_wp2_with fail
      go_ret
      refine TryP.of rfl (by simp [he]) ?_ HR.out (Only.set _ _ _ _) HO.out
      rw [if_pos he]
      exact rdr_adv HG.out h2 H3.out h4 H5'.out h0 H6'.out hn (by first | rw [if_pos hc] | rw [if_neg hc]) (by omega)
  · have e1 : (er != 0) = true := by simp [he]
    go_wp2_with fail
    go_ret
    refine TryP.of rfl (by simp [he]) ?_ HR.out (Only.set _ _ _ _) HO.out
    rw [if_neg he]
    exact rdr_err HG.out h2 H3.out h4 H5'.out h0 H6'.out
/-! ### Number, Truth -/
def BoxV (b : Nat) (v : Value) (t : TypeId) (w : World) : Prop := w.heap[b]? = some (.cells #[v] t (0, 0))
theorem clo_number (A : Option Addr) (c : Nat) (l : List UInt8) (b : Nat) (w : World) (hp : Rd w A l) (hl : l.length ≤ 1099511000000) (hb : BoxV b (.int .u64 0) 75 w) :
    Calls Try.prog 71 #[.slice A l.length c, ptrTo b] w fun e w' => e = .returned (.tuple #[.int .i64 ((rdNum l).2.1 : Nat), .int .i64 (rdNum l).2.2]) ∧
      BoxV b (vU (if (rdNum l).2.2 = 0 then (rdNum l).1 else 0)) 75 w' ∧ Only (fun k => k = b) w w' := by
  have HN := Lib.hid (wnum_any A c l w hp hl)
  have HB := Lib.hid hb
  unfold NumP at HN
  unfold BoxV at HB
  have k0 := cellAt (o := 0) hb rfl
  have f0 := freeAt 0 hb
  clear hb hp
  by_cases he : (rdNum l).2.2 = 0
  · generalize (rdNum l).1 = x at *
    generalize (rdNum l).2.1 = n at *
    generalize (rdNum l).2.2 = y at *
    subst he
    unfold ptrTo
    go_enter Try.func71, Try.ntmps71
    go_wp2_with fail
    refine HN.out.mono ?_
    rintro e w1 ⟨rfl, rfl⟩
    go_wp2_with fail
    go_ret2
    exact ⟨rfl, by unfold BoxV; rw [setCell_get HB.out]; rfl, Only.set _ _ _ _⟩
  · have e1 : ((rdNum l).2.2 == 0) = false := beq_eq_false_iff_ne.2 he
    have HE := Lib.hid he
    generalize (rdNum l).1 = x at *
    generalize (rdNum l).2.1 = n at *
    generalize (rdNum l).2.2 = y at *
    clear he
    unfold ptrTo
    go_enter Try.func71, Try.ntmps71
    go_wp2_with fail
    refine HN.out.mono ?_
    rintro e w1 ⟨rfl, rfl⟩
    go_wp2_with fail
    go_ret2
    exact ⟨rfl, by unfold BoxV; rw [HB.out]; rfl, Only.refl _ _⟩
theorem new_not {w : World} {F : Nat → Prop} : ¬ (fun k => F k ∧ k < w.heap.size) w.heap.size := fun h => Nat.lt_irrefl _ h.2
def RdP1 (F : Nat → Prop) (r : Nat) (s : Rst) (v : Value) (w : World) (e : Ending) (w' : World) : Prop := e = .returned v ∧ RdrW w' F r s ∧ Only (fun k => k = r) w w'
set_option maxRecDepth 100000 in
theorem rdr_number {F : Nat → Prop} (r : Nat) (s : Rst) (w : World) (h : RdrW w F r s) : Calls Try.prog 65 #[ptrTo r] w (RdP1 F r (rsNum s).2 (vU (rsNum s).1) w) := by
  have h1 := h.old.alloc (.cells #[.int .u64 0] 75)
  have h2 : w.heap.size ≠ r := fun e => by have := h.lt; omega
  obtain ⟨l, er⟩ := s
  by_cases he : er = 0
  · subst he
    have HT := Lib.hid (try_made 71 (ptrTo w.heap.size) r w.heap.size l _ _ _ _ (rdNum_len l) h1 new_not (fun _ => rfl)
      (fun A c hp hl => clo_number A c l w.heap.size _ hp hl (newB _ _)))
    rw [show (if (rdNum l).2.2 = 0 then (rdNum l).1 else 0) = (rsNum (l, 0)).1 from rsOf_val _ _ _] at HT
    unfold TryP at HT
    simp only [show (if (rdNum l).2.2 = 0 then (l.drop (rdNum l).2.1, 0) else (l, (rdNum l).2.2)) = (rsNum (l, 0)).2 from rsOf_st 0 _ _] at HT
    generalize (rsNum (l, 0)).1 = x at *
    unfold ptrTo at HT
    unfold ptrTo
    go_enter Try.func65, Try.ntmps65
    go_wp2_with fail
    refine HT.out.mono ?_
    rintro e w1 ⟨rfl, hR, ⟨w2, hx, ho2⟩, ho⟩
    have hX : w1.heap[w.heap.size]? = _ := ho2.get hx h2
    have HR := Lib.hid (hR.weak (G := F) fun _ h => h.1)
    have HO := Lib.hid (((Only.refl (fun k => k = r) w).alloc (.cells #[.int .u64 0] 75)).then ho (fun i hi h => by rcases h with h | h; exact h; omega))
    have k0 := cellAt (o := 0) hX rfl
    have f0 := freeAt 0 hX
    have HS := Lib.hid (setCell_self hX)
    clear hX hR ho2 hx ho
    generalize (rdNum l).2.2 = y at *
    go_wp2_with fail
    rw [HS.out]
    refine bodyPost_ret (v := vU x) (by simp only [results, Try.results65]; go_simp) rfl ⟨rfl, HR.out, HO.out⟩
  · have HT := Lib.hid (fun V => try_stopped r V (l, er) he _ h1)
    rw [show rsNum (l, er) = (0, (l, er)) from rsOf_stop _ _ _ he]
    have HR := Lib.hid (h1.weak (G := F) fun _ h => h.1)
    have hX := newB w (.cells #[.int .u64 0] 75)
    have k0 := cellAt (o := 0) hX rfl
    have f0 := freeAt 0 hX
    have HS := Lib.hid (setCell_self hX)
    have HO := Lib.hid ((Only.refl (fun k => k = r) w).alloc (.cells #[.int .u64 0] 75))
    clear hX h1 h2 h he
    unfold ptrTo at HT
    unfold ptrTo
    go_enter Try.func65, Try.ntmps65
    go_wp2_with fail
    refine (HT.out _).mono ?_
    rintro e w1 ⟨rfl, rfl⟩
    go_wp2_with fail
    try rw [HS.out]
    refine bodyPost_ret (v := .int .u64 0) (by simp only [results, Try.results65]; go_simp) rfl ⟨rfl, HR.out, HO.out⟩
/-! ### Signed, Err, End, Left -/
theorem signed_even {x : Nat} (hx : N64 x) (h : x % 2 = 0) : bits BinOp.xor IntKind.i64 (wrap64 ((x : Int) / 2)) (-((x : Int) % 2)) = unzz x := by
  unfold N64 at hx
  have e1 : wrap64 ((x : Int) / 2) = ((x / 2 : Nat) : Int) := by simp only [wrap64]; omega
  have e2 : -((x : Int) % 2) = 0 := by omega
  rw [e1, e2, xor_zero_ (by omega)]
  unfold unzz; rw [if_pos h]
theorem signed_odd {x : Nat} (hx : N64 x) (h : ¬ x % 2 = 0) : bits BinOp.xor IntKind.i64 (wrap64 ((x : Int) / 2)) (-((x : Int) % 2)) = unzz x := by
  unfold N64 at hx
  have e1 : wrap64 ((x : Int) / 2) = ((x / 2 : Nat) : Int) := by simp only [wrap64]; omega
  have e2 : -((x : Int) % 2) = -1 := by omega
  rw [e1, e2, xor_half (by omega)]
  unfold unzz; rw [if_neg h]
theorem signed_all {x : Nat} (hx : N64 x) : bits BinOp.xor IntKind.i64 (wrap64 ((x : Int) / 2)) (-((x : Int) % 2)) = unzz x := by
  by_cases h : x % 2 = 0
  · exact signed_even hx h
  · exact signed_odd hx h
theorem rdr_signed {F : Nat → Prop} (r : Nat) (s : Rst) (w : World) (h : RdrW w F r s) : Calls Try.prog 50 #[ptrTo r] w (RdP1 F r (rsSigned s).2 (.int .i64 (rsSigned s).1) w) := by
  have HN := Lib.hid (rdr_number r s w h)
  have HX := Lib.hid (rsNum_64 s)
  unfold rsSigned
  generalize (rsNum s).1 = x at *
  generalize (rsNum s).2 = u at *
  have HU := Lib.hid (signed_all HX.out)
  have ha := and_one_u64 (x : Int) (by omega) (by have := HX.out; unfold N64 at this; omega)
  unfold RdP1 at HN
  unfold ptrTo at *
  go_enter Try.func50, Try.ntmps50
  go_wp2_with fail
  refine HN.out.mono ?_
  rintro e w1 ⟨rfl, hR, ho⟩
  have HR := Lib.hid hR
  have HO := Lib.hid ho
  clear hR ho
  go_wp2_with fail
  go_ret
  exact ⟨by rw [← HU.out]; rfl, HR.out, HO.out⟩
theorem rdr_err_ {F : Nat → Prop} (r : Nat) (s : Rst) (w : World) (h : RdrW w F r s) : Calls Try.prog 51 #[ptrTo r] w fun e w' => e = .returned (.int .i64 s.2) ∧ w = w' := by
  obtain ⟨A, c, h1, _⟩ := h
  have k1 := cellAt (o := 1) h1 rfl
  have k2 := cellAt (o := 2) h1 rfl
  unfold ptrTo
  go_enter Try.func51, Try.ntmps51
  go_wp2
  go_ret
  exact ⟨rfl, rfl⟩
/-- The end's error. -/
def rsEnd (s : Rst) : Int := if s.2 ≠ 0 then s.2 else if 0 < s.1.length then 4 else 0
theorem rdr_end {F : Nat → Prop} (r : Nat) (s : Rst) (w : World) (h : RdrW w F r s) : Calls Try.prog 52 #[ptrTo r] w fun e w' => e = .returned (.int .i64 (rsEnd s)) ∧ w = w' := by
  have HE := Lib.hid (rdr_err_ r s w h)
  obtain ⟨A, c, h1, _⟩ := h
  obtain ⟨l, er⟩ := s
  have k0 := cellAt (o := 0) h1 rfl
  unfold ptrTo at *
  unfold rsEnd
  by_cases he : er = 0
  · have e1 : (er != 0) = false := by simp [he]
    by_cases hl : 0 < l.length
    · have e2 : (0 : Int) < (l.length : Int) := by omega
      rw [if_neg (by simpa using he), if_pos hl]
      clear he hl
      go_enter Try.func52, Try.ntmps52
      go_wp2_with fail
      refine HE.out.mono ?_
      rintro e w1 ⟨rfl, rfl⟩
      go_wp2_with fail
      go_ret
      exact ⟨rfl, rfl⟩
    · have e2 : ¬ (0 : Int) < (l.length : Int) := by omega
      rw [if_neg (by simpa using he), if_neg hl]
      clear he hl
      go_enter Try.func52, Try.ntmps52
      go_wp2_with fail
      refine HE.out.mono ?_
      rintro e w1 ⟨rfl, rfl⟩
      go_wp2_with fail
      go_ret
      exact ⟨rfl, rfl⟩
  · have e1 : (er != 0) = true := by simp [he]
    rw [if_pos he]
    clear he
    go_enter Try.func52, Try.ntmps52
    go_wp2_with fail
    refine HE.out.mono ?_
    rintro e w1 ⟨rfl, rfl⟩
    go_wp2_with fail
    go_ret
    exact ⟨rfl, rfl⟩
end Go.Proofs.Ytjcbikkihijkiaa
