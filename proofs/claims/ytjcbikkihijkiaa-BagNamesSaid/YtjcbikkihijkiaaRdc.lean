/- A reader's Count; small. -/
import Derived.Test.YtjcbikkihijkiaaRdm
namespace Go.Proofs.Ytjcbikkihijkiaa
open Go.RowKit
set_option maxRecDepth 100000 in
theorem try_made2 (fn : Nat) (cm cv : Value) {F : Nat → Prop} (r b : Nat) (l : List UInt8) (w : World) (n : Nat) (er : Int) (R : World → Prop) (hn : n ≤ l.length) (h : RdrW w F r (l, 0)) (hbr : ¬ F b) (hcf : ∀ args, Sem.run Try.prog (callFunc fn args) w = .ok (.enter fn args) w)
    (hF : ∀ A c, Rd w A l → l.length ≤ 1099511000000 → Calls Try.prog fn #[.slice A l.length c, cm, cv] w (fun e w' => e = .returned (.tuple #[.int .i64 n, .int .i64 er]) ∧ R w' ∧ Only (fun k => k = b) w w')) :
    Calls Try.prog 62 #[ptrTo r, .func (.func fn) #[] #[cm, cv]] w (TryP F r b (l, 0) n er R w) := by
  obtain ⟨A, c, h1, h2, h3, h4, h5, h0, h6⟩ := h
  have hbr' : r ≠ b := fun e => hbr (e ▸ h0)
  have HF := Lib.hid (hF A c h5 h4)
  have H1 := Lib.hid h1
  have HB : Hid (∀ ad, A = some ad → ad.block ≠ b) := Lib.hid (fun ad e h => hbr (h ▸ (h6 ad e).1))
  clear hF
  have k0 := cellAt (o := 0) h1 rfl
  have k1 := cellAt (o := 1) h1 rfl
  have k2 := cellAt (o := 2) h1 rfl
  have H6 := Lib.hid h6
  have H5 := Lib.hid h5
  have H3 := Lib.hid h3
  clear h1 h5 h6
  unfold maxLen at h3
  unfold ptrTo
  go_enter Try.func62, Try.ntmps62
  go_wp2_with fail
  refine HF.out.mono ?_
  rintro e w1 ⟨rfl, hR, ho⟩
  have HO := Lib.hid ho
  have HR := Lib.hid hR
  have hg := ho.get H1.out hbr'
  have HG := Lib.hid hg
  clear k0 k1 k2 hR ho
  have k0 := cellAt (o := 0) hg rfl
  have k1 := cellAt (o := 1) hg rfl
  have f0 := freeAt 0 hg
  have f1 := freeAt 1 hg
  clear hg hcf
  have H5' := Lib.hid (HO.out.rd H5.out (fun ad e => HB.out ad e))
  have H6' : Hid (∀ ad, A = some ad → F ad.block ∧ ad.block ≠ r ∧ ad.block < w1.heap.size) := Lib.hid (fun ad e => ⟨(H6.out ad e).1, (H6.out ad e).2.1, Nat.lt_of_lt_of_le (H6.out ad e).2.2 HO.out.size⟩)
  by_cases he : er = 0
  · have e1 : (er != 0) = false := by simp [he]
    by_cases hc : c = n
    all_goals
      go_wp2_with fail
      go_ret
      refine TryP.of rfl (by simp [he]) ?_ HR.out (Only.set _ _ _ _) HO.out
      rw [if_pos he]
      exact rdr_adv HG.out h2 H3.out h4 H5'.out h0 H6'.out hn (by first | rw [if_pos hc] | rw [if_neg hc]) (by omega)
  · have e1 : (er != 0) = true := by simp [he]
    go_wp2_with fail
    go_ret
    refine TryP.of rfl (by simp [he]) ?_ HR.out (Only.set _ _ _ _) HO.out
    rw [if_neg he]
    exact rdr_err HG.out h2 H3.out h4 H5'.out h0 H6'.out
set_option maxRecDepth 100000 in
theorem clo_count (m : Nat) (hm : m ≤ 2147483647) (A : Option Addr) (c : Nat) (l : List UInt8) (bm b : Nat) (w : World) (hp : Rd w A l) (hl : l.length ≤ 1099511000000) (hbm : BoxV bm (.int .i64 m) 3 w) (hb : BoxV b (.int .i64 0) 3 w) :
    Calls Try.prog 63 #[.slice A l.length c, ptrTo bm, ptrTo b] w fun e w' => e = .returned (.tuple #[.int .i64 ((rdCount m l).2.1 : Nat), .int .i64 (rdCount m l).2.2]) ∧
      BoxV b (.int .i64 ((if (rdCount m l).2.2 = 0 then (rdCount m l).1 else 0 : Nat) : Int)) 3 w' ∧ Only (fun k => k = b) w w' := by
  have HN := Lib.hid (wnum_any A c l w hp hl)
  have HB := Lib.hid hb
  unfold NumP at HN
  unfold BoxV at HB
  have k0 := cellAt (o := 0) hb rfl
  have f0 := freeAt 0 hb
  have k1 := cellAt (o := 0) hbm rfl
  have hmx : max (0 : Int) (m : Int) = (m : Int) := by omega
  have hwm : IntKind.u64.wrap (m : Int) = (m : Int) := by rw [IntKind.wrap_u64]; omega
  clear hb hp hbm
  by_cases he : (rdNum l).2.2 = 0
  · have HC : Hid (rdCount m l = if (m : Int) < ((rdNum l).1 : Int) then (0, 0, 3) else rdNum l) := Lib.hid (by unfold rdCount; rw [if_neg (by simp [he]), hmx])
    by_cases hv : (m : Int) < ((rdNum l).1 : Int)
    · rw [HC.out, if_pos hv]
      generalize (rdNum l).1 = x at *
      generalize (rdNum l).2.1 = n at *
      generalize (rdNum l).2.2 = y at *
      subst he
      clear HC
      unfold ptrTo
      go_enter Try.func63, Try.ntmps63
      go_wp2_with fail
      refine HN.out.mono ?_
      rintro e w1 ⟨rfl, rfl⟩
      go_wp2_with fail
      all_goals
        go_ret2
        exact ⟨rfl, by unfold BoxV; exact HB.out, Only.refl _ _⟩
    · rw [HC.out, if_neg hv]
      simp only [he, if_true]
      generalize (rdNum l).1 = x at *
      generalize (rdNum l).2.1 = n at *
      generalize (rdNum l).2.2 = y at *
      subst he
      have hwx : wrap64 (x : Int) = (x : Int) := by unfold wrap64; omega
      clear HC
      unfold ptrTo
      go_enter Try.func63, Try.ntmps63
      go_wp2_with fail
      refine HN.out.mono ?_
      rintro e w1 ⟨rfl, rfl⟩
      go_wp2_with fail
      all_goals
        go_ret2
        exact ⟨rfl, by unfold BoxV; rw [setCell_get HB.out]; rfl, Only.set _ _ _ _⟩
  · have e1 : ((rdNum l).2.2 == 0) = false := beq_eq_false_iff_ne.2 he
    have HC : Hid (rdCount m l = (0, 0, (rdNum l).2.2)) := Lib.hid (by unfold rdCount; rw [if_pos he])
    rw [HC.out]
    simp only [he, if_false]
    generalize (rdNum l).1 = x at *
    generalize (rdNum l).2.1 = n at *
    generalize (rdNum l).2.2 = y at *
    clear he
    unfold ptrTo
    go_enter Try.func63, Try.ntmps63
    go_wp2_with fail
    refine HN.out.mono ?_
    rintro e w1 ⟨rfl, rfl⟩
    go_wp2_with fail
    go_ret2
    exact ⟨rfl, by unfold BoxV; rw [HB.out]; rfl, Only.refl _ _⟩
set_option maxRecDepth 100000 in
theorem rdr_count {F : Nat → Prop} (r : Nat) (s : Rst) (m : Nat) (hm : m ≤ 2147483647) (w : World) (h : RdrW w F r s) : Calls Try.prog 49 #[ptrTo r, .int .i64 m] w (RdP1 F r (rsCount m s).2 (.int .i64 ((rsCount m s).1 : Nat)) w) := by
  have h1 := (h.old.alloc (.cells #[.int .i64 (m : Int)] 3)).alloc (.cells #[.int .i64 0] 3)
  have h2 : w.heap.size + 1 ≠ r := fun e => by have := h.lt; omega
  have hx0 := keepA (newB w (.cells #[.int .i64 (m : Int)] 3)) (.cells #[.int .i64 0] 3)
  have hx1 := newB (w.alloc (.cells #[.int .i64 (m : Int)] 3)) (.cells #[.int .i64 0] 3)
  rw [alloc_size] at hx1
  have hnn : ¬ (fun k => F k ∧ k < w.heap.size) (w.heap.size + 1) := fun h => by have := h.2; omega
  obtain ⟨l, er⟩ := s
  by_cases he : er = 0
  · subst he
    have HT := Lib.hid (try_made2 63 (ptrTo w.heap.size) (ptrTo (w.heap.size + 1)) r (w.heap.size + 1) l _ _ _ _ (rdCount_len m l) h1 hnn (fun _ => rfl)
      (fun A c hp hl => clo_count m hm A c l w.heap.size (w.heap.size + 1) _ hp hl hx0 hx1))
    rw [show (if (rdCount m l).2.2 = 0 then (rdCount m l).1 else 0) = (rsCount m (l, 0)).1 from rsOf_val _ _ _] at HT
    unfold TryP at HT
    simp only [show (if (rdCount m l).2.2 = 0 then (l.drop (rdCount m l).2.1, 0) else (l, (rdCount m l).2.2)) = (rsCount m (l, 0)).2 from rsOf_st 0 _ _] at HT
    generalize (rsCount m (l, 0)).1 = x at *
    unfold ptrTo at HT
    unfold ptrTo
    go_enter Try.func49, Try.ntmps49
    go_wp2_with fail
    refine HT.out.mono ?_
    rintro e w1 ⟨rfl, hR, ⟨w2, hx, ho2⟩, ho⟩
    have hX : w1.heap[w.heap.size + 1]? = _ := ho2.get hx h2
    have HR := Lib.hid (hR.weak (G := F) fun _ h => h.1)
    have HO := Lib.hid ((((Only.refl (fun k => k = r) w).alloc (.cells #[.int .i64 (m : Int)] 3)).alloc (.cells #[.int .i64 0] 3)).then ho (fun i hi h => by rcases h with h | h; exact h; omega))
    have k0 := cellAt (o := 0) hX rfl
    have f0 := freeAt 0 hX
    have HS := Lib.hid (setCell_self hX)
    clear hX hR ho2 hx ho
    generalize (rdCount m l).2.2 = y at *
    go_wp2_with fail
    rw [HS.out]
    refine bodyPost_ret (v := .int .i64 (x : Int)) (by simp only [results, Try.results49]; go_simp) rfl ⟨rfl, HR.out, HO.out⟩
  · have HT := Lib.hid (fun V => try_stopped r V (l, er) he _ h1)
    rw [show rsCount m (l, er) = (0, (l, er)) from rsOf_stop _ _ _ he]
    have HR := Lib.hid (h1.weak (G := F) fun _ h => h.1)
    have k0 := cellAt (o := 0) hx1 rfl
    have f0 := freeAt 0 hx1
    have HS := Lib.hid (setCell_self hx1)
    have HO := Lib.hid (((Only.refl (fun k => k = r) w).alloc (.cells #[.int .i64 (m : Int)] 3)).alloc (.cells #[.int .i64 0] 3))
    clear hx0 hx1 h1 h2 h he
    unfold ptrTo at HT
    unfold ptrTo
    go_enter Try.func49, Try.ntmps49
    go_wp2_with fail
    refine (HT.out _).mono ?_
    rintro e w1 ⟨rfl, rfl⟩
    go_wp2_with fail
    try rw [HS.out]
    refine bodyPost_ret (v := .int .i64 0) (by simp only [results, Try.results49]; go_simp) rfl ⟨rfl, HR.out, HO.out⟩
end Go.Proofs.Ytjcbikkihijkiaa
