/- Parts of the proof: MkP. -/
import Derived.Test.YtangcgfchalnaaaYat
import Derived.Test.YtangcgfchalnaaaYam
/- mark: Put. -/
namespace Go.Proofs.Ytangcgfchalnaaa
open Go.RowKit Go.MapKept
theorem infoBuf : (Try.prog.info? 63).map (fun i => (i.zero, i.size, i.bytes)) = some (some (.pointer none), 1, 8) := by kernel_rfl
/-- The table has turned. -/
def TabD (w1 : World) (t : Nat) (X : List SeC) (F : Nat → Prop) (W : World) : Prop := ∃ W1, Below w1.heap.size w1 W1 ∧ Goes (TabO t X) F W1 W
theorem TabD.stab (w1 : World) (t : Nat) (X : List SeC) (F : Nat → Prop) : Stab (TabD w1 t X F) := fun _ _ ⟨W1, h1, h2⟩ hb => ⟨W1, h1, h2.trans (fun _ h => Goes.below (TabO.obj _ _) h hb)⟩
theorem TabD.goes {w1 W : World} {t : Nat} {X : List SeC} {F : Nat → Prop} (h : TabD w1 t X F W) : Goes (TabO t X) F w1 W := by
  obtain ⟨W1, h1, F', g1, g2, g3⟩ := h
  exact ⟨F', g1, fun k hk => ⟨(g2 k hk).1.imp id (fun e => Nat.le_trans h1.size e), (g2 k hk).2⟩, (Only.of_below h1).trans g3⟩
/-- A buffer has turned. -/
def BufD (w1 : World) (b : Nat) (P : List Pt) (F : Nat → Prop) (W : World) : Prop := ∃ W1, Below w1.heap.size w1 W1 ∧ Goes (BufO b P 0) F W1 W
theorem BufD.stab (w1 : World) (b : Nat) (P : List Pt) (F : Nat → Prop) : Stab (BufD w1 b P F) := fun _ _ ⟨W1, h1, h2⟩ hb => ⟨W1, h1, h2.trans (fun _ h => Goes.below (BufO.obj _ _ _) h hb)⟩
theorem BufD.goes {w1 W : World} {b : Nat} {P : List Pt} {F : Nat → Prop} (h : BufD w1 b P F W) : Goes (BufO b P 0) F w1 W := by
  obtain ⟨W1, h1, F', g1, g2, g3⟩ := h
  exact ⟨F', g1, fun k hk => ⟨(g2 k hk).1.imp id (fun e => Nat.le_trans h1.size e), (g2 k hk).2⟩, (Only.of_below h1).trans g3⟩
section
variable {w : World} {F : Nat → Prop} {i n c : Nat} {la mo pa : Int} {S : List SrP} {m : ByteArray} {A : Option Addr} {L : List Lb} {tm x : Int}
set_option maxHeartbeats 8000000 in
set_option maxRecDepth 100000 in
theorem mput_any (h : IntO i la mo pa S w F) (hn : L.length = n) (hr : RdLb w A L) (hS : smallS m L) (hl : S.length ≤ 1000) :
    Calls Try.prog 9 #[iptr i, .agg #[.string m, .slice A n c, .int .i64 tm, .int .i64 x]] w fun e w' => e = .returned (.int .i64 (mayE la mo S m L tm)) ∧ Goes (IntO i la (putMo la mo S m L tm) pa (putSS la mo S m L tm x)) F w w' := by
  have HB := Lib.hid (below_alloc (Below.refl w.heap.size w) (.cells #[.string m, .slice A n c, .int .i64 tm, .int .i64 x] 34))
  have HX := Lib.hid (newB w (.cells #[.string m, .slice A n c, .int .i64 tm, .int .i64 x] 34))
  have CM := Lib.hid (mmay_any (c := c) (tm := tm) (x := x) ((IntO.obj _ _ _ _ _).below h HB.out) hn (hr.below HB.out) hS)
  have HS := Lib.hid h
  have HP := Lib.hid (And.intro hn (And.intro hr (And.intro hS hl)))
  obtain ⟨E, hE⟩ : ∃ E, mayE la mo S m L tm = E := ⟨_, rfl⟩
  obtain ⟨MO, hMO⟩ : ∃ M, putMo la mo S m L tm = M := ⟨_, rfl⟩
  obtain ⟨SS, hSS⟩ : ∃ M, putSS la mo S m L tm x = M := ⟨_, rfl⟩
  rw [hE] at CM ⊢
  rw [hMO, hSS]
  have HE := Lib.hid (And.intro hE (And.intro hMO hSS))
  have d0 := cellAt (o := 0) HX.out rfl
  have d1 := cellAt (o := 1) HX.out rfl
  have d2 := cellAt (o := 2) HX.out rfl
  have d3 := cellAt (o := 3) HX.out rfl
  clear h hn hr hS hl hE hMO hSS
  go_enter Try.func9, Try.ntmps9
  go_wp2_with fail
  refine CM.out.mono ?_
  rintro e w2 ⟨rfl, hb2⟩
  have HB2 := Lib.hid (HB.out.trans (hb2.mono HB.out.size))
  have HX2 := Lib.hid (keepB HX.out hb2)
  clear hb2 d0 d1 d2 d3 CM
  by_cases h0 : E = 0
  · subst h0
    have hok := mayOk rfl HE.out.1
    obtain ⟨F0, hF0⟩ : ∃ G, (fun k => F k ∧ k < w.heap.size) = G := ⟨_, rfl⟩
    have hS0 := (IntO.obj _ _ _ _ _).old HS.out
    rw [hF0] at hS0
    have HF0 : Hid (∀ k, F0 k → F k ∧ k < w.heap.size) := Lib.hid (fun k hk => by rw [← hF0] at hk; exact hk)
    clear hF0
    obtain ⟨hk, own, t, v, bs, hC⟩ := hS0
    obtain ⟨k, hki⟩ : ∃ k, idK (seK (m, L)) (S.map (·.1)) = k := ⟨_, rfl⟩
    rw [hki] at hok
    have HOk := Lib.hid hok
    have HK := Lib.hid (And.intro hki hk)
    have hC2 := hC.below HB2.out
    have HC2 := Lib.hid hC2.d
    have CT := Lib.hid (fun W (hb : Below w2.heap.size w2 W) => tput_any (m := m) (c := c) ((TabO.obj _ _).below hC2.tab hb) HP.out.1 ((HP.out.2.1.below HB2.out).below hb) HOk.out.ser HP.out.2.2.1 (by rw [List.length_map]; have := HP.out.2.2.2; omega))
    obtain ⟨r, hr⟩ : ∃ r, putI (S.map (·.1)) (m, L) = r := ⟨_, rfl⟩
    obtain ⟨X', hX'⟩ : ∃ r, putT (S.map (·.1)) (m, L) = r := ⟨_, rfl⟩
    rw [hr, hX'] at CT
    have HRX := Lib.hid (And.intro hr hX')
    clear hok hki hk hC hC2 hr hX'
    have HFC : Hid (FC w2 (fun k => F0 k ∧ own k = 1) [(i, ikC la mo pa t v), (w.heap.size, smB m A n c tm x)] w2) := Lib.hid ⟨Only.refl _ _, fun p hp => by
      simp only [List.mem_cons, List.not_mem_nil, or_false] at hp
      rcases hp with rfl | rfl
      · exact HC2.out.box
      · exact HX2.out⟩
    have HFS : Hid (∀ W W', FC w2 (fun k => F0 k ∧ own k = 1) [(i, ikC la mo pa t v), (w.heap.size, smB m A n c tm x)] W → Only (fun k => F0 k ∧ own k = 1) W W' → FC w2 (fun k => F0 k ∧ own k = 1) [(i, ikC la mo pa t v), (w.heap.size, smB m A n c tm x)] W') := Lib.hid (FC.step (fun p hp => by
      have hi := HC2.out.oi
      simp only [List.mem_cons, List.not_mem_nil, or_false] at hp
      rcases hp with rfl | rfl
      · exact fun e => by rw [hi] at e; omega
      · exact fun e => by have := (HF0.out _ e.1).2; simp only at this; omega))
    go_wp2_with fail
    refine wp_region_two 12 [(0, false), (1, false), (2, false), (3, false), (4, false), (5, false), (6, true), (7, false), (8, false), (9, false), (10, false), (11, false)] [] [] rfl (FC w2 (fun k => F0 k ∧ own k = 1) [(i, ikC la mo pa t v), (w.heap.size, smB m A n c tm x)]) (D0 w2) (by kernel_rfl) (by kernel_rfl) FC.stab (D0.stab w2) (FC.stab _ _ HFC.out (Below.refl _ _).drew) (Below.refl _ _).drew ?_
    repeat (first | (refine wt_q rfl rfl ?_; apply Exists.intro; refine ⟨fun w' hw' => ?_, fun K hK => ?_⟩; (focus ((have q0 := hw'.get 0 rfl; have k4 := cellAt (o := 4) (v := tptr t) q0 rfl; have qx := hw'.get 1 rfl; have x0 := cellAt (o := 0) qx rfl; have x1 := cellAt (o := 1) qx rfl; clear q0 qx); go_simp; first | exact quiet_value | fail)); simp only [Act.put, List.setIfInBounds_toArray, List.set_cons_zero, List.set_cons_succ]; refine hK.out _ ?_; clear hK K) | (refine wt_skip rfl rfl (fun K hK => ?_); simp only [Act.put, List.setIfInBounds_toArray, List.set_cons_zero, List.set_cons_succ]; refine hK.out _ ?_; clear hK K))
    refine wt_stepV rfl (.tuple #[.int .i64 (r : Int), .int .i64 0]) (TabD w2 t X' (fun k => F0 k ∧ own k = 1)) (TabD.stab _ _ _ _) rfl rfl (by kernel_rfl) (fun _ _ _ hC w' hw => (hC w' hw).elim) (fun w' hc hd => ?_) (fun K hK => ?_)
    focus
      have HCd := Lib.hid (And.intro hc hd)
      clear hc hd
      go_simp
      refine st_enter ?_
      exact (CT.out _ HCd.out.2).mono fun e W' ⟨h1, h2⟩ => ⟨_, h1, rfl, HFS.out _ _ HCd.out.1 (by obtain ⟨_, _, _, g3⟩ := h2; exact g3), w', HCd.out.2, h2⟩
    simp only [Act.put, List.setIfInBounds_toArray, List.set_cons_zero, List.set_cons_succ]
    refine hK.out _ _ _ ?_
    clear hK K
    repeat (first | (refine wt_q rfl rfl ?_; apply Exists.intro; refine ⟨fun w' hw' => ?_, fun K hK => ?_⟩; (focus ((skip); go_simp; first | exact quiet_value | fail)); simp only [Act.put, List.setIfInBounds_toArray, List.set_cons_zero, List.set_cons_succ]; refine hK.out _ ?_; clear hK K) | (refine wt_skip rfl rfl (fun K hK => ?_); simp only [Act.put, List.setIfInBounds_toArray, List.set_cons_zero, List.set_cons_succ]; refine hK.out _ ?_; clear hK K))
    refine wt_nil ?_
    rintro w3 hc3 hd3
    have HD3 := Lib.hid (HC2.out.turnTab hd3.goes)
    have HX3 := Lib.hid (hc3.get 1 rfl)
    have HO3 : Hid (Only F0 w w3) := Lib.hid ((Only.of_below HB2.out).trans (hc3.only.mono (fun k _ e => e.1)))
    clear hc3 hd3 HFC HFS CT
    try simp only [List.drop_succ_cons, List.drop_zero]
    obtain ⟨A5, c5, rfl, _⟩ := HD3.out.row.form
    have hbS : bs.length = S.length := by have := HD3.out.len; rw [List.length_map] at this; exact this
    obtain ⟨bn, hbn⟩ : ∃ n, bs.length = n := ⟨_, rfl⟩
    have b3 : w3.heap[i]? = some (ikC la mo pa t (.slice A5 bn c5)) := by rw [← hbn]; exact HD3.out.box
    have k5 := cellAt (o := 5) b3 rfl
    clear b3
    have hsl : bn ≤ 1000 := by have := HP.out.2.2.2; omega
    have HBS := Lib.hid (And.intro hbS hbn)
    have HiF := Lib.hid HC2.out.inF
    have hlw : w.heap.size < w2.heap.size := only_lt HX2.out
    have HLw := Lib.hid hlw
    clear hbS hbn hlw
    by_cases hk0 : k = 0
    · have hr1 : r = bn + 1 := by
        have hb1 := HBS.out.1
        have hb2 := HBS.out.2
        rw [← HRX.out.1]; unfold putI; rw [HK.out.1, if_pos hk0, List.length_map]; omega
      have HR1 := Lib.hid hr1
      have hgt : (bn : Int) < (r : Int) := by omega
      have hgtN : bn < r := by omega
      clear hr1
      go_wp2_with fail
      refine (bnew_any w3).mono ?_
      rintro e w4 ⟨rfl, hBN, hb4, hs4⟩
      obtain ⟨nb, hnb⟩ : ∃ b, w3.heap.size = b := ⟨_, rfl⟩
      rw [hnb] at hBN
      have HX4 := Lib.hid (keepB HX3.out hb4)
      have HD4 := Lib.hid (HD3.out.below hb4)
      have HB4 := Lib.hid hb4
      have HNB := Lib.hid (And.intro hnb hs4)
      have CTr := Lib.hid (trim_go (b := nb) (P := []) (fl := 0) 0 (x := 0) (y := 0) (f := 0) (P' := []) rfl rfl rfl hBN)
      rw [hnb]
      clear hb4 hnb hs4 hBN k5
      have k3 := cellAt (o := 3) (v := .int .i64 0) HD4.out.box rfl
      go_wp2_with fail
      refine CTr.out.mono ?_
      rintro e w5 ⟨rfl, F5, hB5, hF5, hO5⟩
      have hnb3 := HNB.out.1
      have hb35 : Below w3.heap.size w3 w5 := HB4.out.trans (hO5.below (fun k e => by omega) HB4.out.size)
      have HD5 := Lib.hid (HD3.out.below hb35)
      have HX5 := Lib.hid (keepB HX3.out hb35)
      have HBf := Lib.hid (And.intro hB5 hF5)
      have HB5 := Lib.hid hb35
      clear k3 CTr hB5 hF5 hO5 hb35 hnb3
      have b5 : w5.heap[i]? = some (ikC la mo pa t (.slice A5 bn c5)) := by rw [← HBS.out.2]; exact HD5.out.box
      have k5 := cellAt (o := 5) b5 rfl
      have f5 := freeAt 5 b5
      clear b5
      obtain ⟨i0, hi0, hz0, hz1, hz2⟩ := info_parts infoBuf
      have HI0 := Lib.hid (And.intro hi0 (And.intro hz0 (And.intro hz1 hz2)))
      clear hi0 hz0 hz1 hz2
      have HA := Lib.hid (below_alloc (Below.refl w5.heap.size w5) (.cells #[bptr nb] 63))
      have HAn := Lib.hid (newB w5 (.cells #[bptr nb] 63))
      have hrw := HD5.out.row.below HA.out
      rw [HBS.out.2] at hrw
      have HRw := Lib.hid hrw
      clear hrw
      go_wp2_with (at_builtin; go_loud (refine wpL_row _ rfl _ _ 59 rfl 63 i0 (.pointer none) 1 8 Try.underlying59 HI0.out.1 HI0.out.2.1 HI0.out.2.2.1 HI0.out.2.2.2 rfl _ _ bn (bs.map bptr) rfl HRw.out ⟨w5.heap.size, 0, none⟩ 1 1 [bptr nb] rfl (by omega) rfl (one_new HAn.out) (one_one rfl) (by unfold maxLen; omega) (by omega) ?_))
      intro v' w6 hr6 ho6 hob6
      obtain ⟨A6, c6, rfl, _⟩ := hr6.form
      have hvo : ∀ k, (Value.slice A5 bn c5).ownBlock = some k → ((F0 k ∨ w2.heap.size ≤ k) ∧ (if w2.heap.size ≤ k then 1 else own k) = 2) ∧ k < w3.heap.size := fun k hk => by
        have hrow := HD3.out.row
        rw [HBS.out.2] at hrow
        exact hrow.lt k hk
      have hil := only_lt HD3.out.box
      have hb6 : w6.heap[i]? = some (ikC la mo pa t (.slice A5 bn c5)) := ho6.get (by rw [← HBS.out.2]; exact keepA HD5.out.box _) (fun e => by
        have h1 := (hvo _ e).1.2; have h2 := HD3.out.oi; omega)
      have k5 := cellAt (o := 5) hb6 rfl
      have f5 := freeAt 5 hb6
      have HB6 := Lib.hid hb6
      have HR6 := Lib.hid hr6
      have HO6 := Lib.hid (And.intro ho6 (And.intro hob6 (And.intro hvo hil)))
      clear hb6 hr6 ho6 hob6 hvo hil
      go_wp2_with fail
      clear k5 f5
      have hW7 : ∃ W, w6.setCell ⟨i, 5, none⟩ (.slice A6 (bn + 1) c6) = W := ⟨_, rfl⟩
      have hb7 := setCell_get (o := 5) (u := .slice A6 (bn + 1) c6) HB6.out
      have hOs := Only.set w6 i 5 (.slice A6 (bn + 1) c6)
      obtain ⟨w7, hw7⟩ := hW7
      rw [hw7] at hb7 hOs
      rw [hw7]
      clear hw7
      have hb7 : w7.heap[i]? = some (ikC la mo pa t (.slice A6 (bn + 1) c6)) := hb7
      obtain ⟨ho6, hob6, hvo, hil⟩ := HO6.out
      have hs35 := HB5.out.size
      have hs5 : w3.heap.size < w5.heap.size := by have h1 := HNB.out.2; have h2 := HNB.out.1; obtain ⟨hBf, hF5⟩ := HBf.out; have := (BufO.obj _ _ _).old hBf; obtain ⟨Z, v, h, _⟩ := hBf; have := (hF5 _ h.inF).1; have := only_lt h.buf; omega
      have ho37 : Only (fun k => ((F0 k ∨ w2.heap.size ≤ k) ∧ (if w2.heap.size ≤ k then 1 else own k) = 2) ∨ k = i) w3 w7 :=
        ((Only.of_below HB5.out).trans (Only.of_below HA.out)).trans ((ho6.mono (fun k _ e => .inl (hvo k e).1)).trans (hOs.mono (fun k _ e => .inr e)))
      have hvb : ∀ k, (Value.slice A6 (bn + 1) c6).ownBlock = some k → ((Value.slice A5 bn c5).ownBlock = some k ∨ w5.heap.size + 1 ≤ k) := fun k hk => by
        rcases hob6 with e | e
        · exact .inl (e ▸ hk)
        · rw [e] at hk; cases hk; exact .inr (Nat.le_refl _)
      have hrow7 : RowAt w7 (fun k => ((F0 k ∨ w2.heap.size ≤ k) ∧ (if w2.heap.size ≤ k then 1 else own k) = 2) ∨ w3.heap.size ≤ k) 63 1 (.slice A6 (bn + 1) c6) (bs.length + 1) ((bs ++ [nb]).map bptr) := by
        rw [HBS.out.2, List.map_append]
        refine (HR6.out.keep' hOs (fun k hk e => ?_)).weak (fun k _ hk => hk.imp (fun e => (hvo k e).1) (fun e => by omega))
        rcases hvb k hk with h | h
        · have h1 := (hvo k h).1.2; have h2 := HD3.out.oi; rw [show k = i from e] at h1; omega
        · have e : k = i := e; omega
      have hbf7 : BufO nb [] 0 w7 (fun k => w3.heap.size ≤ k ∧ (Value.slice A6 (bn + 1) c6).ownBlock ≠ some k) := by
        obtain ⟨hBf, hF5⟩ := HBf.out
        have hge : ∀ k, F5 k → w3.heap.size ≤ k ∧ k < w5.heap.size := fun k hk => ⟨by have := HNB.out.1; have := HNB.out.2; have := (hF5 k hk).1; omega, (hF5 k hk).2⟩
        have h57 : Only (fun k => (Value.slice A5 bn c5).ownBlock = some k ∨ k = i) w5 w7 := (Only.of_below HA.out).trans ((ho6.mono (fun k _ e => .inl e)).trans (hOs.mono (fun k _ e => .inr e)))
        refine (BufO.obj _ _ _).weak ((BufO.obj _ _ _).keep ((BufO.obj _ _ _).weak hBf (G := F5) (fun k _ h => h)) h57 (fun k hk _ e => ?_)) (fun k _ hk => ⟨(hge k hk).1, fun e => ?_⟩)
        · have := (hge k hk).1
          rcases e with e | e
          · have := (hvo k e).2; omega
          · omega
        · have := hge k hk
          rcases hvb k e with h | h
          · have := (hvo k h).2; omega
          · omega
      obtain ⟨vt, hvt⟩ : ∃ vt, Value.slice A6 (bn + 1) c6 = vt := ⟨_, rfl⟩
      have HDt := Lib.hid (HD3.out.pushed ho37 hb7 hrow7 hbf7)
      have HXt := Lib.hid ((hOs.mono (T := fun k => k = i) (fun _ _ e => e)).get (ho6.get (keepA HX5.out _) (fun e => by
        have h1 := (hvo _ e).1; have := HLw.out
        rcases h1.1 with h | h
        · have := (HF0.out _ h).2; omega
        · omega)) (fun e => by have e : w.heap.size = i := e; have := (HF0.out _ HiF.out).2; omega))
      have HOt : Hid (Only F0 w w7) := Lib.hid (HO3.out.then ho37 (fun k hk e => by
        rcases e with e | e
        · exact e.1.resolve_right (by have := HLw.out; omega)
        · rw [e]; exact HiF.out))
      have HFt : Hid (∀ k, ((F0 k ∨ w2.heap.size ≤ k) ∨ w3.heap.size ≤ k) → F0 k ∨ w.heap.size ≤ k) := Lib.hid (fun k h => by
        have := HLw.out; have := HO3.out.size
        rcases h with (h | h) | h
        · exact .inl h
        · exact .inr (by omega)
        · exact .inr (by omega))
      have HBx : ¬ (((F0 w.heap.size ∨ w2.heap.size ≤ w.heap.size) ∨ w3.heap.size ≤ w.heap.size) ∧ (if w3.heap.size ≤ w.heap.size then (if (Value.slice A6 (bn + 1) c6).ownBlock = some w.heap.size then 2 else bs.length + 3) else (if w2.heap.size ≤ w.heap.size then 1 else own w.heap.size)) = bs.length + 3) := fun e => by
        have := HLw.out; have := only_lt HX3.out
        rcases e.1 with (h | h) | h
        · have := (HF0.out _ h).2; omega
        · omega
        · omega
      rw [hvt]
      obtain ⟨j, hj0⟩ : ∃ j, bs.length = j := ⟨_, rfl⟩
      have hj : j < (bs ++ [nb]).length := by rw [List.length_append, List.length_singleton]; omega
      have hjb : j = bn := by rw [← hj0, HBS.out.2]
      have hjr : r = j + 1 := by have := HR1.out; omega
      have hjl : (bs ++ [nb]).length ≤ 2000 := by rw [List.length_append, List.length_singleton]; omega
      have hQj : (S.map (fun y : SrP => y.2) ++ [[]]).length = j + 1 := by rw [List.length_append, List.length_map, List.length_singleton]; have := HBS.out.1; omega
      obtain ⟨Pj, hPj'⟩ : ∃ P, (S.map (fun y : SrP => y.2) ++ [[]])[j]'(by omega) = P := ⟨_, rfl⟩
      have hPe : Pj = [] := by
        rw [← hPj', List.getElem_append_right (by rw [List.length_map]; have := HBS.out.1; omega)]; simp
      have hPj := hPj'
      have hok := HOk.out
      have hput : putE tm Pj 0 = 0 := by
        rw [hPe]; unfold putE
        rw [if_neg (by have := hok.t1; have := hok.t2; omega), if_neg (by have := hok.t1; omega), if_neg (by simp [hasT]), if_neg (by simp)]
      obtain ⟨P2, hP2e⟩ : ∃ P, insP (tm, x) Pj = P := ⟨_, rfl⟩
      have hP2 : putP tm x Pj 0 = P2 := by unfold putP; rw [if_pos hput]; exact hP2e
      have HQt : Hid ((putS k S (m, L) (tm, x)).map (fun y : SrP => y.2) = (S.map (fun y : SrP => y.2) ++ [[]]).set j P2) := Lib.hid (by
        rw [hk0, putS_snd0, ← hP2e, hPe]
        congr 1
        have := HBS.out.1
        omega)
      have hTail : ∃ Ft ownt bst Qt vt', IntD w7 Ft ownt i la mo pa t vt' bst X' Qt ∧ (∀ k, Ft k → F0 k ∨ w.heap.size ≤ k) ∧ ¬ (Ft w.heap.size ∧ ownt w.heap.size = j + 3) ∧ ∃ (_ : j < bst.length) (hjq : j < Qt.length), Qt[j] = Pj ∧ bst.length ≤ 2000 ∧ (putS k S (m, L) (tm, x)).map (fun y : SrP => y.2) = Qt.set j P2 :=
        ⟨_, _, _, _, _, HDt.out, HFt.out, by rw [← hj0]; exact HBx, hj, by omega, hPj, hjl, HQt.out⟩
      clear hvt HDt HFt HBx hj hPj hjl HQt hPj' hQj hj0 hjb
      clear HB6 HR6 HO6 HA HAn HRw HD5 HX5 HBf HB5 HI0 HD4 HX4 HB4 HNB hb7 hOs ho6 hob6 hvo hil hs35 hs5 ho37 hvb hrow7 hbf7 hPe hP2e hok hgt hgtN
      obtain ⟨Ft, ownt, bst, Qt, vt, hdt, hft, HBx, hj, hjq, hPj, hjl, hQt⟩ := hTail
      have HDt := Lib.hid hdt
      have HFt := Lib.hid hft
      have HQt := Lib.hid hQt
      clear hdt hft hQt
      have hbg : bst[j]'hj = bst.getD j 0 := by rw [List.getD_eq_getElem?_getD, List.getElem?_eq_getElem hj]; rfl
      obtain ⟨b0, hb0'⟩ : ∃ b, bst.getD j 0 = b := ⟨_, rfl⟩
      have hb0 : bst[j]'hj = b0 := hbg.trans hb0'
      have HD0 := Lib.hid HDt.out
      have HCell : Hid (∃ ad ct, vt = .slice (some ad) bst.length ct ∧ ∀ w', Only (fun k => Ft k ∧ ownt k = j + 3) (w7) w' → w'.cell? (ad.add j) = some (bptr b0)) := Lib.hid (by
        obtain ⟨ad, ct, hv, _⟩ := HDt.out.row_cell hj
        refine ⟨ad, ct, hv, fun w' ho => ?_⟩
        have hrow := HDt.out.row.keep ho (fun k hk _ e => by have h1 := hk.2; rw [e.2] at h1; omega)
        rw [hv] at hrow
        obtain ⟨A', c', hv', _, _, hrd, _, _⟩ := hrow.form
        cases hv'
        obtain ⟨ad', e', _, hc⟩ := hrd.2 (by omega)
        cases e'
        rw [hc j _ (by rw [List.getElem?_map, List.getElem?_eq_getElem hj]; rfl), hb0])
      obtain ⟨ad, ct, hvt, hcell⟩ := HCell.out
      subst hvt
      have HCl := Lib.hid hcell
      have HPut := Lib.hid (fun W' (hw : Only (fun k => Ft k ∧ ownt k = j + 3) (w7) W') (hb : Below (w7).heap.size (w7) W') => put_go tm x (x := 0) hput (P' := P2) hP2 (by have h := (BufO.obj _ _ _).below (HDt.out.buf j hj (by rw [← HDt.out.len]; exact hj)) hb; rw [hb0, hPj] at h; exact h))
      obtain ⟨N, hN⟩ : ∃ N, bst.length = N := ⟨_, rfl⟩
      have HFC : Hid (FC (w7) (fun k => Ft k ∧ ownt k = j + 3) [(i, ikC la mo pa t (.slice (some ad) N ct)), (w.heap.size, smB m A n c tm x)] (w7)) := Lib.hid ⟨Only.refl _ _, fun p hp => by
        simp only [List.mem_cons, List.not_mem_nil, or_false] at hp
        rcases hp with rfl | rfl
        · rw [← hN]; exact HDt.out.box
        · exact HXt.out⟩
      have HFS : Hid (∀ W1 W', FC (w7) (fun k => Ft k ∧ ownt k = j + 3) [(i, ikC la mo pa t (.slice (some ad) N ct)), (w.heap.size, smB m A n c tm x)] W1 → Only (fun k => Ft k ∧ ownt k = j + 3) W1 W' → FC (w7) (fun k => Ft k ∧ ownt k = j + 3) [(i, ikC la mo pa t (.slice (some ad) N ct)), (w.heap.size, smB m A n c tm x)] W') := Lib.hid (FC.step (fun p hp => by
        have hi := HDt.out.oi
        simp only [List.mem_cons, List.not_mem_nil, or_false] at hp
        rcases hp with rfl | rfl
        · exact fun e => by have e2 := e.2; simp only at e2; rw [hi] at e2; omega
        · exact HBx))
      have hjN : j < N := by omega
      have hjI : (j : Int) < (N : Int) := by omega
      have hN64 : N ≤ 2000 := by omega
      have hw1 : IntKind.i64.wrap ((r : Int) - 1) = (j : Int) := by rw [IntKind.wrap_i64]; omega
      have HJ : Hid (∃ h : j < bst.length, bst[j]'h = b0) := Lib.hid ⟨hj, hb0⟩
      have HNN := Lib.hid hN
      clear hcell hput hP2 hPj hN hb0 hb0' hbg HBx hj hjq hjr
      refine wp_region_two 13 [(0, false), (1, false), (2, false), (3, false), (4, false), (5, false), (6, false), (7, false), (8, false), (9, false), (10, false), (11, false), (12, true)] [] [] rfl (FC (w7) (fun k => Ft k ∧ ownt k = j + 3) [(i, ikC la mo pa t (.slice (some ad) N ct)), (w.heap.size, smB m A n c tm x)]) (D0 (w7)) (by kernel_rfl) (by kernel_rfl) FC.stab (D0.stab (w7)) (FC.stab _ _ HFC.out (Below.refl _ _).drew) (Below.refl _ _).drew ?_
      repeat (first | (refine wt_q rfl rfl ?_; apply Exists.intro; refine ⟨fun w' hw' => ?_, fun K hK => ?_⟩; (focus ((have q0 := hw'.get 0 rfl; have k5 := cellAt (o := 5) (v := .slice (some ad) N ct) q0 rfl; have hc := HCl.out _ hw'.only; have qx := hw'.get 1 rfl; have x2 := cellAt (o := 2) (v := .int .i64 tm) qx rfl; have x3 := cellAt (o := 3) (v := .int .i64 x) qx rfl; clear q0 qx); go_simp; first | exact quiet_value | fail)); simp only [Act.put, List.setIfInBounds_toArray, List.set_cons_zero, List.set_cons_succ]; refine hK.out _ ?_; clear hK K) | (refine wt_skip rfl rfl (fun K hK => ?_); simp only [Act.put, List.setIfInBounds_toArray, List.set_cons_zero, List.set_cons_succ]; refine hK.out _ ?_; clear hK K))
      refine wt_stepV rfl (.int .i64 0) (BufD (w7) b0 P2 (fun k => Ft k ∧ ownt k = j + 3)) (BufD.stab _ _ _ _) rfl rfl (by kernel_rfl) (fun _ _ _ hC w' hw => (hC w' hw).elim) (fun w' hc hd => ?_) (fun K hK => ?_)
      focus
        have HCd := Lib.hid (And.intro hc hd)
        clear hc hd
        go_simp
        refine st_enter ?_
        exact (HPut.out _ HCd.out.1.only HCd.out.2).mono fun e W' ⟨h1, h2⟩ => ⟨_, h1, rfl, HFS.out _ _ HCd.out.1 (by obtain ⟨_, _, _, g3⟩ := h2; exact g3), w', HCd.out.2, h2⟩
      simp only [Act.put, List.setIfInBounds_toArray, List.set_cons_zero, List.set_cons_succ]
      refine hK.out _ _ _ ?_
      clear hK K
      refine wt_nil ?_
      rintro w8 hc8 hd8
      obtain ⟨hj, hb0⟩ := HJ.out
      have HD8 := Lib.hid (HD0.out.turnBuf hj (by rw [hb0]; exact hd8.goes))
      clear hj hb0
      have HX8 := Lib.hid (hc8.get 1 rfl)
      have HO8 : Hid (Only F0 w w8) := Lib.hid (HOt.out.then hc8.only (fun k hk e => (HFt.out k e.1).resolve_right (by omega)))
      clear hc8 hd8 HFC HFS HPut HCl
      try simp only [List.drop_succ_cons, List.drop_zero]
      have hMO : MO = max mo tm := by rw [← HE.out.2.1]; unfold putMo; rw [HE.out.1, if_pos rfl]
      have hSS : SS = putS k S (m, L) (tm, x) := by rw [← HE.out.2.2]; unfold putSS; rw [HE.out.1, if_pos rfl, HK.out.1]
      have HMS := Lib.hid (And.intro hMO hSS)
      clear hMO hSS HE
      have fin : ∀ w9, Only (fun k => k = i) w8 w9 → w9.heap[i]? = some (ikC la MO pa t (.slice (some ad) bst.length ct)) → Goes (IntO i la MO pa SS) F w w9 := fun w9 ho9 hb9 => by
        have hD9 := HD8.out.boxed (mo' := MO) (pa' := pa) ho9 hb9
        have hs8 := HO8.out.size
        refine ⟨fun k => ((Ft k ∨ (w7).heap.size ≤ k)) ∧ k < w9.heap.size, ⟨?_, _, t, _, _, (hD9.c ?_ ?_).weak (fun k hk h => ⟨h, hk⟩)⟩, fun k hk => ⟨?_, hk.2⟩, (HO8.out.then ho9 (fun k hk e => by rw [show k = i from e]; exact HiF.out)).mono (fun k _ h => (HF0.out k h).1)⟩
        · have hk := HK.out.2
          have hok := HOk.out
          refine ⟨hk.la0, hk.la1, ?_, ?_, hk.pa0, hk.pa1, ?_⟩
          · rw [HMS.out.1]; have := hk.mo0; omega
          · rw [HMS.out.1]; have := hk.mo1; have := hok.t2; omega
          · rw [HMS.out.2]
            have hl := HP.out.2.2.2
            unfold putS
            by_cases hkz : k = 0
            · rw [if_pos hkz, List.length_append, List.length_singleton]; omega
            · rw [if_neg hkz, List.length_modify]; omega
        · rw [HMS.out.2, putS_fst HK.out.1]; exact HRX.out.2
        · rw [HMS.out.2]; exact HQt.out
        · rcases hk.1 with h | h
          · rcases HFt.out k h with h | h
            · exact .inl (HF0.out k h).1
            · exact .inr h
          · have := HOt.out.size; exact .inr (by omega)
      have FIN := Lib.hid fin
      clear fin
      have k8 := HD8.out.box
      rw [HNN.out] at k8
      have HK8 := Lib.hid k8
      have HNQ := Lib.hid HNN.out
      clear k8
      by_cases hmt : mo < tm
      · have HMo : Hid (MO = tm) := Lib.hid (by rw [HMS.out.1]; omega)
        go_wp2_with fail
        refine wp_region_here 10 [(0, false), (1, false), (2, false), (3, false), (4, false), (5, false), (6, false), (7, false), (8, false), (9, false)] (fun _ => .cells #[] 0) (by kernel_rfl) (by kernel_rfl) ?_
        repeat (first | (refine wpP_q rfl rfl rfl ?_; apply Exists.intro; refine ⟨fun w' hw' => ?_, fun K hK => ?_⟩; (focus ((have q0 := keepB HK8.out hw'; have k1 := cellAt (o := 1) (v := .int .i64 mo) q0 rfl; have x2 := cellAt (o := 2) (v := .int .i64 tm) (keepB HX8.out hw') rfl; clear q0); go_simp; first | exact quiet_value | fail)); simp only [Act.put, List.setIfInBounds_toArray, List.set_cons_zero, List.set_cons_succ]; refine hK.out _ ?_; clear hK K) | (refine wpP_skip rfl rfl rfl (fun K hK => ?_); simp only [Act.put, List.setIfInBounds_toArray, List.set_cons_zero, List.set_cons_succ]; refine hK.out _ ?_; clear hK K))
        refine wpP_nil ?_
        intro w9 hb9
        have HK9 := Lib.hid (keepB HK8.out hb9)
        have HO9 : Hid (Only (fun k => k = i) w8 w9) := Lib.hid (Only.of_below hb9)
        clear hb9
        (try simp only [List.drop_succ_cons]); (try simp only [List.drop_zero]); (try simp only [List.drop_nil])
        have f1 := freeAt 1 HK9.out
        have k1 := cellAt (o := 1) (v := .int .i64 mo) HK9.out rfl
        go_wp2_with fail
        go_ret
        refine ⟨rfl, FIN.out _ (HO9.out.trans (Only.set w9 i 1 (.int .i64 tm))) ?_⟩
        have hst := setCell_get (o := 1) (u := .int .i64 tm) HK9.out
        rw [HNQ.out, HMo.out]
        exact hst
      · have HMo : Hid (MO = mo) := Lib.hid (by rw [HMS.out.1]; omega)
        have hmt2 : tm ≤ mo := by omega
        go_wp2_with fail
        refine wp_region_here 10 [(0, false), (1, false), (2, false), (3, false), (4, false), (5, false), (6, false), (7, false), (8, false), (9, false)] (fun _ => .cells #[] 0) (by kernel_rfl) (by kernel_rfl) ?_
        repeat (first | (refine wpP_q rfl rfl rfl ?_; apply Exists.intro; refine ⟨fun w' hw' => ?_, fun K hK => ?_⟩; (focus ((have q0 := keepB HK8.out hw'; have k1 := cellAt (o := 1) (v := .int .i64 mo) q0 rfl; have x2 := cellAt (o := 2) (v := .int .i64 tm) (keepB HX8.out hw') rfl; clear q0); go_simp; first | exact quiet_value | fail)); simp only [Act.put, List.setIfInBounds_toArray, List.set_cons_zero, List.set_cons_succ]; refine hK.out _ ?_; clear hK K) | (refine wpP_skip rfl rfl rfl (fun K hK => ?_); simp only [Act.put, List.setIfInBounds_toArray, List.set_cons_zero, List.set_cons_succ]; refine hK.out _ ?_; clear hK K))
        refine wpP_nil ?_
        intro w9 hb9
        have HK9 := Lib.hid (keepB HK8.out hb9)
        have HO9 : Hid (Only (fun k => k = i) w8 w9) := Lib.hid (Only.of_below hb9)
        clear hb9
        (try simp only [List.drop_succ_cons]); (try simp only [List.drop_zero]); (try simp only [List.drop_nil])
        have f1 := freeAt 1 HK9.out
        have k1 := cellAt (o := 1) (v := .int .i64 mo) HK9.out rfl
        go_wp2_with fail
        go_ret
        refine ⟨rfl, FIN.out _ (HO9.out.trans (Only.set w9 i 1 (.int .i64 mo))) ?_⟩
        have hst := setCell_get (o := 1) (u := .int .i64 mo) HK9.out
        rw [HNQ.out, HMo.out]
        exact hst
    · have hkl : k ≤ bn := by
        have hb1 := HBS.out.1
        have hb2 := HBS.out.2
        have := idK_le (seK (m, L)) (S.map (·.1)); rw [HK.out.1, List.length_map] at this; omega
      have hr1 : r = k := by
        rw [← HRX.out.1]; unfold putI; rw [HK.out.1, if_neg hk0]
      have HR1 := Lib.hid hr1
      have hgt : ¬ (bn : Int) < (r : Int) := by omega
      have hgtN : ¬ bn < r := by omega
      clear hr1
      go_wp2_with fail
      clear k5 hgt hgtN
      obtain ⟨vt, hvt⟩ : ∃ vt, Value.slice A5 bs.length c5 = vt := ⟨_, rfl⟩
      have HDt := HD3
      have HXt := HX3
      have HOt := HO3
      have HFt : Hid (∀ k, (F0 k ∨ w2.heap.size ≤ k) → F0 k ∨ w.heap.size ≤ k) := Lib.hid (fun k h => by
        have := HLw.out
        rcases h with h | h
        · exact .inl h
        · exact .inr (by omega))
      obtain ⟨j, hj0⟩ : ∃ j, k = j + 1 := ⟨k - 1, by omega⟩
      have HBx : ¬ ((F0 w.heap.size ∨ w2.heap.size ≤ w.heap.size) ∧ (if w2.heap.size ≤ w.heap.size then 1 else own w.heap.size) = j + 3) := fun e => by
        have := HLw.out
        rcases e.1 with h | h
        · have := (HF0.out _ h).2; omega
        · omega
      rw [hvt] at HDt
      have hj : j < bs.length := by have := HBS.out.2; omega
      have hjr : r = j + 1 := by have := HR1.out; omega
      have hjl : bs.length ≤ 2000 := by have := HBS.out.2; omega
      have hQj : j < (S.map (fun y : SrP => y.2)).length := by rw [List.length_map]; have := HBS.out.1; have := HBS.out.2; omega
      obtain ⟨Pj, hPj⟩ : ∃ P, (S.map (fun y : SrP => y.2))[j]'hQj = P := ⟨_, rfl⟩
      have hok := HOk.out
      have hpe : ptsS k S = Pj := by
        unfold ptsS
        rw [if_neg hk0, ← hPj, List.getElem_map, hj0, Nat.add_sub_cancel, List.getD_eq_getElem?_getD, List.getElem?_eq_getElem (by rw [List.length_map] at hQj; exact hQj)]
        rfl
      have hput : putE tm Pj 0 = 0 := by
        have h1 := hok.no
        have h2 := hok.full
        rw [hpe] at h1 h2
        unfold putE
        rw [if_neg (by have := hok.t1; have := hok.t2; omega), if_neg (by have := hok.t1; omega), if_neg (by rw [h1]; simp), if_neg h2]
      obtain ⟨P2, hP2e⟩ : ∃ P, insP (tm, x) Pj = P := ⟨_, rfl⟩
      have hP2 : putP tm x Pj 0 = P2 := by unfold putP; rw [if_pos hput]; exact hP2e
      have HQt : Hid ((putS k S (m, L) (tm, x)).map (fun y : SrP => y.2) = (S.map (fun y : SrP => y.2)).set j P2) := Lib.hid (by
        rw [hj0, putS_snd hQj, hPj, hP2e])
      have hTail : ∃ Ft ownt bst Qt vt', IntD w3 Ft ownt i la mo pa t vt' bst X' Qt ∧ (∀ k, Ft k → F0 k ∨ w.heap.size ≤ k) ∧ ¬ (Ft w.heap.size ∧ ownt w.heap.size = j + 3) ∧ ∃ (_ : j < bst.length) (hjq : j < Qt.length), Qt[j] = Pj ∧ bst.length ≤ 2000 ∧ (putS k S (m, L) (tm, x)).map (fun y : SrP => y.2) = Qt.set j P2 :=
        ⟨_, _, _, _, _, HDt.out, HFt.out, HBx, hj, hQj, hPj, hjl, HQt.out⟩
      clear hvt HDt HFt HBx hj hPj hjl HQt hQj
      clear hok hpe hP2e hkl
      obtain ⟨Ft, ownt, bst, Qt, vt, hdt, hft, HBx, hj, hjq, hPj, hjl, hQt⟩ := hTail
      have HDt := Lib.hid hdt
      have HFt := Lib.hid hft
      have HQt := Lib.hid hQt
      clear hdt hft hQt
      have hbg : bst[j]'hj = bst.getD j 0 := by rw [List.getD_eq_getElem?_getD, List.getElem?_eq_getElem hj]; rfl
      obtain ⟨b0, hb0'⟩ : ∃ b, bst.getD j 0 = b := ⟨_, rfl⟩
      have hb0 : bst[j]'hj = b0 := hbg.trans hb0'
      have HD0 := Lib.hid HDt.out
      have HCell : Hid (∃ ad ct, vt = .slice (some ad) bst.length ct ∧ ∀ w', Only (fun k => Ft k ∧ ownt k = j + 3) (w3) w' → w'.cell? (ad.add j) = some (bptr b0)) := Lib.hid (by
        obtain ⟨ad, ct, hv, _⟩ := HDt.out.row_cell hj
        refine ⟨ad, ct, hv, fun w' ho => ?_⟩
        have hrow := HDt.out.row.keep ho (fun k hk _ e => by have h1 := hk.2; rw [e.2] at h1; omega)
        rw [hv] at hrow
        obtain ⟨A', c', hv', _, _, hrd, _, _⟩ := hrow.form
        cases hv'
        obtain ⟨ad', e', _, hc⟩ := hrd.2 (by omega)
        cases e'
        rw [hc j _ (by rw [List.getElem?_map, List.getElem?_eq_getElem hj]; rfl), hb0])
      obtain ⟨ad, ct, hvt, hcell⟩ := HCell.out
      subst hvt
      have HCl := Lib.hid hcell
      have HPut := Lib.hid (fun W' (hw : Only (fun k => Ft k ∧ ownt k = j + 3) (w3) W') (hb : Below (w3).heap.size (w3) W') => put_go tm x (x := 0) hput (P' := P2) hP2 (by have h := (BufO.obj _ _ _).below (HDt.out.buf j hj (by rw [← HDt.out.len]; exact hj)) hb; rw [hb0, hPj] at h; exact h))
      obtain ⟨N, hN⟩ : ∃ N, bst.length = N := ⟨_, rfl⟩
      have HFC : Hid (FC (w3) (fun k => Ft k ∧ ownt k = j + 3) [(i, ikC la mo pa t (.slice (some ad) N ct)), (w.heap.size, smB m A n c tm x)] (w3)) := Lib.hid ⟨Only.refl _ _, fun p hp => by
        simp only [List.mem_cons, List.not_mem_nil, or_false] at hp
        rcases hp with rfl | rfl
        · rw [← hN]; exact HDt.out.box
        · exact HXt.out⟩
      have HFS : Hid (∀ W1 W', FC (w3) (fun k => Ft k ∧ ownt k = j + 3) [(i, ikC la mo pa t (.slice (some ad) N ct)), (w.heap.size, smB m A n c tm x)] W1 → Only (fun k => Ft k ∧ ownt k = j + 3) W1 W' → FC (w3) (fun k => Ft k ∧ ownt k = j + 3) [(i, ikC la mo pa t (.slice (some ad) N ct)), (w.heap.size, smB m A n c tm x)] W') := Lib.hid (FC.step (fun p hp => by
        have hi := HDt.out.oi
        simp only [List.mem_cons, List.not_mem_nil, or_false] at hp
        rcases hp with rfl | rfl
        · exact fun e => by have e2 := e.2; simp only at e2; rw [hi] at e2; omega
        · exact HBx))
      have hjN : j < N := by omega
      have hjI : (j : Int) < (N : Int) := by omega
      have hN64 : N ≤ 2000 := by omega
      have hw1 : IntKind.i64.wrap ((r : Int) - 1) = (j : Int) := by rw [IntKind.wrap_i64]; omega
      have HJ : Hid (∃ h : j < bst.length, bst[j]'h = b0) := Lib.hid ⟨hj, hb0⟩
      have HNN := Lib.hid hN
      clear hcell hput hP2 hPj hN hb0 hb0' hbg HBx hj hjq hjr
      refine wp_region_two 13 [(0, false), (1, false), (2, false), (3, false), (4, false), (5, false), (6, false), (7, false), (8, false), (9, false), (10, false), (11, false), (12, true)] [] [] rfl (FC (w3) (fun k => Ft k ∧ ownt k = j + 3) [(i, ikC la mo pa t (.slice (some ad) N ct)), (w.heap.size, smB m A n c tm x)]) (D0 (w3)) (by kernel_rfl) (by kernel_rfl) FC.stab (D0.stab (w3)) (FC.stab _ _ HFC.out (Below.refl _ _).drew) (Below.refl _ _).drew ?_
      repeat (first | (refine wt_q rfl rfl ?_; apply Exists.intro; refine ⟨fun w' hw' => ?_, fun K hK => ?_⟩; (focus ((have q0 := hw'.get 0 rfl; have k5 := cellAt (o := 5) (v := .slice (some ad) N ct) q0 rfl; have hc := HCl.out _ hw'.only; have qx := hw'.get 1 rfl; have x2 := cellAt (o := 2) (v := .int .i64 tm) qx rfl; have x3 := cellAt (o := 3) (v := .int .i64 x) qx rfl; clear q0 qx); go_simp; first | exact quiet_value | fail)); simp only [Act.put, List.setIfInBounds_toArray, List.set_cons_zero, List.set_cons_succ]; refine hK.out _ ?_; clear hK K) | (refine wt_skip rfl rfl (fun K hK => ?_); simp only [Act.put, List.setIfInBounds_toArray, List.set_cons_zero, List.set_cons_succ]; refine hK.out _ ?_; clear hK K))
      refine wt_stepV rfl (.int .i64 0) (BufD (w3) b0 P2 (fun k => Ft k ∧ ownt k = j + 3)) (BufD.stab _ _ _ _) rfl rfl (by kernel_rfl) (fun _ _ _ hC w' hw => (hC w' hw).elim) (fun w' hc hd => ?_) (fun K hK => ?_)
      focus
        have HCd := Lib.hid (And.intro hc hd)
        clear hc hd
        go_simp
        refine st_enter ?_
        exact (HPut.out _ HCd.out.1.only HCd.out.2).mono fun e W' ⟨h1, h2⟩ => ⟨_, h1, rfl, HFS.out _ _ HCd.out.1 (by obtain ⟨_, _, _, g3⟩ := h2; exact g3), w', HCd.out.2, h2⟩
      simp only [Act.put, List.setIfInBounds_toArray, List.set_cons_zero, List.set_cons_succ]
      refine hK.out _ _ _ ?_
      clear hK K
      refine wt_nil ?_
      rintro w8 hc8 hd8
      obtain ⟨hj, hb0⟩ := HJ.out
      have HD8 := Lib.hid (HD0.out.turnBuf hj (by rw [hb0]; exact hd8.goes))
      clear hj hb0
      have HX8 := Lib.hid (hc8.get 1 rfl)
      have HO8 : Hid (Only F0 w w8) := Lib.hid (HOt.out.then hc8.only (fun k hk e => (HFt.out k e.1).resolve_right (by omega)))
      clear hc8 hd8 HFC HFS HPut HCl
      try simp only [List.drop_succ_cons, List.drop_zero]
      have hMO : MO = max mo tm := by rw [← HE.out.2.1]; unfold putMo; rw [HE.out.1, if_pos rfl]
      have hSS : SS = putS k S (m, L) (tm, x) := by rw [← HE.out.2.2]; unfold putSS; rw [HE.out.1, if_pos rfl, HK.out.1]
      have HMS := Lib.hid (And.intro hMO hSS)
      clear hMO hSS HE
      have fin : ∀ w9, Only (fun k => k = i) w8 w9 → w9.heap[i]? = some (ikC la MO pa t (.slice (some ad) bst.length ct)) → Goes (IntO i la MO pa SS) F w w9 := fun w9 ho9 hb9 => by
        have hD9 := HD8.out.boxed (mo' := MO) (pa' := pa) ho9 hb9
        have hs8 := HO8.out.size
        refine ⟨fun k => ((Ft k ∨ (w3).heap.size ≤ k)) ∧ k < w9.heap.size, ⟨?_, _, t, _, _, (hD9.c ?_ ?_).weak (fun k hk h => ⟨h, hk⟩)⟩, fun k hk => ⟨?_, hk.2⟩, (HO8.out.then ho9 (fun k hk e => by rw [show k = i from e]; exact HiF.out)).mono (fun k _ h => (HF0.out k h).1)⟩
        · have hk := HK.out.2
          have hok := HOk.out
          refine ⟨hk.la0, hk.la1, ?_, ?_, hk.pa0, hk.pa1, ?_⟩
          · rw [HMS.out.1]; have := hk.mo0; omega
          · rw [HMS.out.1]; have := hk.mo1; have := hok.t2; omega
          · rw [HMS.out.2]
            have hl := HP.out.2.2.2
            unfold putS
            by_cases hkz : k = 0
            · rw [if_pos hkz, List.length_append, List.length_singleton]; omega
            · rw [if_neg hkz, List.length_modify]; omega
        · rw [HMS.out.2, putS_fst HK.out.1]; exact HRX.out.2
        · rw [HMS.out.2]; exact HQt.out
        · rcases hk.1 with h | h
          · rcases HFt.out k h with h | h
            · exact .inl (HF0.out k h).1
            · exact .inr h
          · have := HOt.out.size; exact .inr (by omega)
      have FIN := Lib.hid fin
      clear fin
      have k8 := HD8.out.box
      rw [HNN.out] at k8
      have HK8 := Lib.hid k8
      have HNQ := Lib.hid HNN.out
      clear k8
      by_cases hmt : mo < tm
      · have HMo : Hid (MO = tm) := Lib.hid (by rw [HMS.out.1]; omega)
        go_wp2_with fail
        refine wp_region_here 10 [(0, false), (1, false), (2, false), (3, false), (4, false), (5, false), (6, false), (7, false), (8, false), (9, false)] (fun _ => .cells #[] 0) (by kernel_rfl) (by kernel_rfl) ?_
        repeat (first | (refine wpP_q rfl rfl rfl ?_; apply Exists.intro; refine ⟨fun w' hw' => ?_, fun K hK => ?_⟩; (focus ((have q0 := keepB HK8.out hw'; have k1 := cellAt (o := 1) (v := .int .i64 mo) q0 rfl; have x2 := cellAt (o := 2) (v := .int .i64 tm) (keepB HX8.out hw') rfl; clear q0); go_simp; first | exact quiet_value | fail)); simp only [Act.put, List.setIfInBounds_toArray, List.set_cons_zero, List.set_cons_succ]; refine hK.out _ ?_; clear hK K) | (refine wpP_skip rfl rfl rfl (fun K hK => ?_); simp only [Act.put, List.setIfInBounds_toArray, List.set_cons_zero, List.set_cons_succ]; refine hK.out _ ?_; clear hK K))
        refine wpP_nil ?_
        intro w9 hb9
        have HK9 := Lib.hid (keepB HK8.out hb9)
        have HO9 : Hid (Only (fun k => k = i) w8 w9) := Lib.hid (Only.of_below hb9)
        clear hb9
        (try simp only [List.drop_succ_cons]); (try simp only [List.drop_zero]); (try simp only [List.drop_nil])
        have f1 := freeAt 1 HK9.out
        have k1 := cellAt (o := 1) (v := .int .i64 mo) HK9.out rfl
        go_wp2_with fail
        go_ret
        refine ⟨rfl, FIN.out _ (HO9.out.trans (Only.set w9 i 1 (.int .i64 tm))) ?_⟩
        have hst := setCell_get (o := 1) (u := .int .i64 tm) HK9.out
        rw [HNQ.out, HMo.out]
        exact hst
      · have HMo : Hid (MO = mo) := Lib.hid (by rw [HMS.out.1]; omega)
        have hmt2 : tm ≤ mo := by omega
        go_wp2_with fail
        refine wp_region_here 10 [(0, false), (1, false), (2, false), (3, false), (4, false), (5, false), (6, false), (7, false), (8, false), (9, false)] (fun _ => .cells #[] 0) (by kernel_rfl) (by kernel_rfl) ?_
        repeat (first | (refine wpP_q rfl rfl rfl ?_; apply Exists.intro; refine ⟨fun w' hw' => ?_, fun K hK => ?_⟩; (focus ((have q0 := keepB HK8.out hw'; have k1 := cellAt (o := 1) (v := .int .i64 mo) q0 rfl; have x2 := cellAt (o := 2) (v := .int .i64 tm) (keepB HX8.out hw') rfl; clear q0); go_simp; first | exact quiet_value | fail)); simp only [Act.put, List.setIfInBounds_toArray, List.set_cons_zero, List.set_cons_succ]; refine hK.out _ ?_; clear hK K) | (refine wpP_skip rfl rfl rfl (fun K hK => ?_); simp only [Act.put, List.setIfInBounds_toArray, List.set_cons_zero, List.set_cons_succ]; refine hK.out _ ?_; clear hK K))
        refine wpP_nil ?_
        intro w9 hb9
        have HK9 := Lib.hid (keepB HK8.out hb9)
        have HO9 : Hid (Only (fun k => k = i) w8 w9) := Lib.hid (Only.of_below hb9)
        clear hb9
        (try simp only [List.drop_succ_cons]); (try simp only [List.drop_zero]); (try simp only [List.drop_nil])
        have f1 := freeAt 1 HK9.out
        have k1 := cellAt (o := 1) (v := .int .i64 mo) HK9.out rfl
        go_wp2_with fail
        go_ret
        refine ⟨rfl, FIN.out _ (HO9.out.trans (Only.set w9 i 1 (.int .i64 mo))) ?_⟩
        have hst := setCell_get (o := 1) (u := .int .i64 mo) HK9.out
        rw [HNQ.out, HMo.out]
        exact hst
  · have hzb : decide (E = 0) = false := decide_eq_false h0
    have e1 : mo = MO := by rw [← HE.out.2.1]; unfold putMo; rw [HE.out.1, if_neg h0]
    have e2 : S = SS := by rw [← HE.out.2.2]; unfold putSS; rw [HE.out.1, if_neg h0]
    subst e1 e2
    clear HE
    go_wp2_with fail
    go_ret
    exact ⟨rfl, Goes.below (IntO.obj _ _ _ _ _) HS.out HB2.out⟩
end
end Go.Proofs.Ytangcgfchalnaaa
