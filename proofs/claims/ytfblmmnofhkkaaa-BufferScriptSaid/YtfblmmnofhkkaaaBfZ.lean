/- BufferScript, walked. -/
import Derived.Test.YtfblmmnofhkkaaaRfB
import Derived.Test.YtfblmmnofhkkaaaOpD
namespace Go.Proofs.Ytfblmmnofhkkaaa
open Go.RowKit
/-- A buffer and the reference's, and a box. -/
abbrev Duo (b r : Nat) (P : List Pt) (f : Int) (R : List Pt) (g : Int) : Ob := Star (BufO b P f) (RbO r R g)
theorem duo_obj (b r : Nat) (P : List Pt) (f : Int) (R : List Pt) (g : Int) : Obj1 (Duo b r P f R g) := Star.obj (BufO.obj _ _ _) (RbO.obj _ _ _)
section
variable {A A' B B' C : Ob} {w w' w0 : World}
theorem LM.turnA (hB : Obj1 B) (hC : Obj1 C) (h : LM w0 (Star (Star A B) C) w) {P : Program} {R : Ending → Prop} {f : Nat} {args : Array Value} (hc : ∀ F, A w F → Calls P f args w fun e w' => R e ∧ Goes A' F w w') : Calls P f args w fun e w' => R e ∧ LM w0 (Star (Star A' B) C) w' :=
  h.turn1 hC (fun _ ⟨F, _, h1, h2, h3, h4, h5⟩ => (hc F h1).mono fun _ _ ⟨a, b⟩ => ⟨a, Star.goes1 hB h2 h3 h4 h5 b⟩)
theorem LM.turnB (hA : Obj1 A) (hC : Obj1 C) (h : LM w0 (Star (Star A B) C) w) {P : Program} {R : Ending → Prop} {f : Nat} {args : Array Value} (hc : ∀ F, B w F → Calls P f args w fun e w' => R e ∧ Goes B' F w w') : Calls P f args w fun e w' => R e ∧ LM w0 (Star (Star A B') C) w' :=
  h.turn1 hC (fun _ ⟨_, G, h1, h2, h3, h4, h5⟩ => (hc G h2).mono fun _ _ ⟨a, b⟩ => ⟨a, Star.goes2 hA h1 h3 h4 h5 b⟩)
theorem LM.got_box {i : Nat} {x : Obj} (h : LM w0 (Star A (BoxO i x)) w) : w.heap[i]? = some x := by
  obtain ⟨_, F, ⟨_, G, _, h2, _⟩, _⟩ := h; exact h2.2
end
theorem duo_rise {w0 w : World} {b r : Nat} {P : List Pt} {f : Int} {R : List Pt} {g : Int} (h : LM w0 (Duo b r P f R g) w) : Rise P := lm_rise h
/-- A row of points, read. -/
def PtsR (n : Nat) (L : List Pt) (v : Value) (W : World) : Prop := ∃ a c base, v = .slice a n c ∧ W.ownsRow base 45 3 (.slice a n c) n (pcs L)
theorem PtsR.stab (n : Nat) (L : List Pt) (v : Value) : Stab (PtsR n L v) := fun _ _ h hb => by
  obtain ⟨a, c, base, h1, h2⟩ := h; exact ⟨a, c, base, h1, or_below h2 hb⟩
def BxC (w : World) (i : Nat) (x : Obj) (W : World) : Prop := Below w.heap.size w W ∧ W.heap[i]? = some x
theorem BxC.stab (w : World) (i : Nat) (x : Obj) : Stab (BxC w i x) := fun _ _ h hb => ⟨h.1.trans (hb.mono h.1.size), keepB h.2 hb⟩
theorem trimP_in {t fl : Int} {P : List Pt} (h : TmIn P) : TmIn (trimP t P fl) := by
  unfold trimP; split
  · exact h
  · exact above_in h
theorem trimP_len (t fl : Int) (P : List Pt) : (trimP t P fl).length ≤ P.length := by
  unfold trimP; split
  · exact Nat.le_refl _
  · exact above_len _ _
theorem rnew_more {A : Ob} {w0 w : World} (hA : Obj1 A) (h : LM w0 A w) : Calls Try.prog 22 #[] w fun e w' => e = .returned (.pointer (some ⟨w.heap.size, 0, none⟩)) ∧ LM w0 (Star A (RbO w.heap.size [] 0)) w' := by
  refine (rnew_any w).mono ?_
  rintro e w' ⟨h1, h2, h3⟩
  exact ⟨h1, h.more hA h3 (F := fun k => k = w.heap.size) h2 (fun k e => by omega)⟩
set_option maxHeartbeats 8000000 in
set_option maxRecDepth 100000 in
theorem bufscript_any (A : Option Addr) (l : List ActV) (cap : Nat) (x y : Int) (w : World) (hA : RAct w A l) :
    Calls Try.prog 7 #[.slice A l.length cap, .int .i64 x, .int .i64 y] w fun e w' => e = .returned (.bool true) ∧ Below w.heap.size w w' := by
  obtain ⟨N, hN⟩ : ∃ N, l.length = N := ⟨_, rfl⟩
  have HN := Lib.hid hN
  have HA := Lib.hid hA
  rw [hN]
  clear hA hN
  go_enter Try.func7, Try.ntmps7
  go_wp2_with fail
  refine (lives_any w).mono ?_
  rintro e w1 ⟨rfl, hb⟩
  have HB1 := Lib.hid hb
  clear hb
  by_cases h1 : (400 : Int) < (N : Int)
  · go_wp2_with fail
    go_ret
    exact ⟨rfl, HB1.out⟩
  have HNm : Hid (N ≤ 400) := Lib.hid (by omega)
  go_wp2_with fail
  clear h1
  refine (new_lm HB1.out).mono ?_
  rintro e w2 ⟨rfl, h2⟩
  have HS := Lib.hid h2
  obtain ⟨b, hb⟩ : ∃ a, w1.heap.size = a := ⟨_, rfl⟩
  rw [hb] at HS
  clear h2
  go_wp2_with fail
  clear hb
  refine (rnew_more (BufO.obj _ _ _) HS.out).mono ?_
  rintro e w3 ⟨rfl, h3⟩
  obtain ⟨r, hr⟩ : ∃ b, w2.heap.size = b := ⟨_, rfl⟩
  rw [hr] at h3
  have HT := Lib.hid h3
  clear h3 HS
  go_wp2_with fail
  clear hr
  go_loopw [9] (fun v wr => ∃ (k : Nat) (P : List Pt) (f : Int), k ≤ N ∧ v = .int .i64 k ∧ Hid (LM w (Duo b r P f P f) wr) ∧ Hid (P.length ≤ k ∧ TmIn P)) (fun v _ => N - (intOf v).toNat)
  case atStart => exact ⟨0, [], 0, Nat.zero_le _, rfl, HT, Lib.hid ⟨by simp, by simp [TmIn]⟩⟩
  clear HT HB1
  case round =>
    obtain ⟨k, P, f, hk, rfl, HT, HP⟩ := hrel
    by_cases h0 : k < N
    · have hkl : k < l.length := by rw [HN.out]; exact h0
      obtain ⟨ad, rfl, _, _⟩ := HA.out (by omega)
      have HX0 := Lib.hid h0
      have HCL : Hid (∀ W, Below w.heap.size w W → W.cell? (ad.add (k * 3)) = some (.int .i64 l[k].1) ∧ W.cell? { block := (ad.add (k * 3)).block, off := (ad.add (k * 3)).off + 1 } = some (.int .i64 l[k].2.1) ∧ W.cell? { block := (ad.add (k * 3)).block, off := (ad.add (k * 3)).off + 2 } = some (.int .i64 l[k].2.2)) := Lib.hid (fun W hb => by
        obtain ⟨ad', e, _, h⟩ := HA.out.below hb (by omega)
        cases e
        exact h.at_ k hkl)
      obtain ⟨⟨kd, t, m⟩, hx⟩ : ∃ x, l[k] = x := ⟨_, rfl⟩
      rw [hx] at HCL
      have HR := Lib.hid (duo_rise HT.out)
      have hnm := HNm.out
      have hw : IntKind.i64.wrap ((k : Int) + 1) = ((k + 1 : Nat) : Int) := by rw [IntKind.wrap_i64]; omega
      obtain ⟨pk, hpk⟩ : ∃ p, pickN kd 5 = p := ⟨_, rfl⟩
      have CP := Lib.hid (fun W => pick_any kd 5 (by omega) W)
      rw [hpk] at CP
      obtain ⟨c0, c1, c2⟩ := HCL.out _ HT.out.below
      clear hkl hx hpk
      go_wp2_with fail
      clear c0 c1 c2
      replace HT := Lib.hid (HT.out.box (duo_obj _ _ _ _ _ _) (Obj.cells #[.int .i64 kd, .int .i64 t, .int .i64 m] 37) (newB _ _))
      obtain ⟨w5, hw5⟩ : ∃ w5, wr.alloc (Obj.cells #[.int .i64 kd, .int .i64 t, .int .i64 m] 37) = w5 := ⟨_, rfl⟩
      rw [hw5] at HT ⊢
      obtain ⟨i, hi⟩ : ∃ i, wr.heap.size = i := ⟨_, rfl⟩
      rw [hi] at HT ⊢
      clear hw5 hi
      refine (CP.out _).mono ?_
      rintro e w6 ⟨rfl, rfl⟩
      by_cases hp4 : pk = 4
      · subst hp4
        obtain ⟨xx, yy, he⟩ : ∃ xx yy, trimE t P f = (xx, yy) := ⟨_, _, rfl⟩
        obtain ⟨P', hP'⟩ : ∃ P', trimP t P f = P' := ⟨_, rfl⟩
        obtain ⟨f', hf'⟩ : ∃ f', trimF t f = f' := ⟨_, rfl⟩
        have HP' : Hid (P'.length ≤ k + 1 ∧ TmIn P') := Lib.hid ⟨by rw [← hP']; have := trimP_len t f P; have := HP.out.1; omega, by rw [← hP']; exact trimP_in HP.out.2⟩
        have hPl : P.length ≤ 65536 := by have := HP.out.1; omega
        have C1 := Lib.hid (fun W (h : LM w (Star (Duo b r P f P f) (BoxO i (Obj.cells #[.int .i64 kd, .int .i64 t, .int .i64 m] 37))) W) => h.turnA (RbO.obj _ _ _) (BoxO.obj _ _) (fun F h => trim_go t he hP' hf' h))
        have C2 := Lib.hid (fun W (h : LM w (Star (Duo b r P' f' P f) (BoxO i (Obj.cells #[.int .i64 kd, .int .i64 t, .int .i64 m] 37))) W) => h.turnB (BufO.obj _ _ _) (BoxO.obj _ _) (fun F h => rtrim_any t he hP' hf' h hPl))
        clear he hP' hf' hPl
        have bx := HT.out.got_box
        have c0 := cellAt (o := 0) bx rfl
        have c1 := cellAt (o := 1) bx rfl
        have c2 := cellAt (o := 2) bx rfl
        clear bx
        go_wp2_with fail
        refine (C1.out _ HT.out).mono ?_
        rintro e w6 ⟨rfl, h7⟩
        replace HT := Lib.hid h7
        clear h7 c0 c1 c2
        have bx := HT.out.got_box
        have c0 := cellAt (o := 0) bx rfl
        have c1 := cellAt (o := 1) bx rfl
        have c2 := cellAt (o := 2) bx rfl
        clear bx
        go_wp2_with fail
        refine (C2.out _ HT.out).mono ?_
        rintro e w6 ⟨rfl, h7⟩
        replace HT := Lib.hid h7
        clear h7 c0 c1 c2 C1 C2
        obtain ⟨an, ab, hA2⟩ : ∃ an ai, atP m P' = (an, ai) := ⟨_, _, rfl⟩
        obtain ⟨lo, hlo⟩ : ∃ lo, lastP m P' = lo := ⟨_, rfl⟩
        obtain ⟨⟨pt, pn⟩, hpp⟩ : ∃ p, lo.getD (0, 0) = p := ⟨_, rfl⟩
        obtain ⟨pi, hpi⟩ : ∃ b, lo.isSome = b := ⟨_, rfl⟩
        obtain ⟨nl, hnl⟩ : ∃ n, P'.length = n := ⟨_, rfl⟩
        have HTm := HP'.out.2
        have HL6 : P'.length ≤ 65536 := by have := HP'.out.1; have := HNm.out; omega
        have CA := Lib.hid (fun W (h : LM w (Star (Duo b r P' f' P' f') (BoxO i (Obj.cells #[.int .i64 kd, .int .i64 t, .int .i64 m] 37))) W) => h.read1 (fun _ ⟨F, _, h1, _⟩ => bAt_any m h1))
        have CB := Lib.hid (fun W (h : LM w (Star (Duo b r P' f' P' f') (BoxO i (Obj.cells #[.int .i64 kd, .int .i64 t, .int .i64 m] 37))) W) => h.read1 (fun _ ⟨_, G, _, h2, _⟩ => rat_any m h2 HL6))
        have CC := Lib.hid (fun W (h : LM w (Star (Duo b r P' f' P' f') (BoxO i (Obj.cells #[.int .i64 kd, .int .i64 t, .int .i64 m] 37))) W) => h.read1 (fun _ ⟨F, _, h1, _⟩ => bLast_any m h1))
        have CD := Lib.hid (fun W (h : LM w (Star (Duo b r P' f' P' f') (BoxO i (Obj.cells #[.int .i64 kd, .int .i64 t, .int .i64 m] 37))) W) => h.read1 (fun _ ⟨_, G, _, h2, _⟩ => rlast_any m HTm h2 HL6))
        have CE := Lib.hid (fun W (h : LM w (Star (Duo b r P' f' P' f') (BoxO i (Obj.cells #[.int .i64 kd, .int .i64 t, .int .i64 m] 37))) W) => h.read1 (fun _ ⟨F, _, h1, _⟩ => len_go hnl h1))
        have CF := Lib.hid (fun W (h : LM w (Star (Duo b r P' f' P' f') (BoxO i (Obj.cells #[.int .i64 kd, .int .i64 t, .int .i64 m] 37))) W) => h.read1 (fun _ ⟨F, _, h1, _⟩ => floor_go h1))
        have CG := Lib.hid (fun W (h : LM w (Star (Duo b r P' f' P' f') (BoxO i (Obj.cells #[.int .i64 kd, .int .i64 t, .int .i64 m] 37))) W) => h.read1 (fun _ ⟨_, G, _, h2, _⟩ => rfloor_any h2 HL6))
        have HNL := Lib.hid hnl
        rw [hA2] at CA CB
        rw [hlo] at CC CD
        unfold lastV at CC CD
        rw [hpp, hpi] at CC CD
        simp only at CA CB CC CD
        clear hA2 hlo hpp hpi hnl HTm HL6
        have bx := HT.out.got_box
        have c0 := cellAt (o := 0) bx rfl
        have c1 := cellAt (o := 1) bx rfl
        have c2 := cellAt (o := 2) bx rfl
        clear bx
        go_wp2_with fail
        refine (CA.out _ HT.out).mono ?_
        rintro e w7 ⟨rfl, h7⟩
        replace HT := Lib.hid (HT.out.go (Star.obj (duo_obj _ _ _ _ _ _) (BoxO.obj _ _)) h7)
        clear h7 c0 c1 c2
        have bx := HT.out.got_box
        have c0 := cellAt (o := 0) bx rfl
        have c1 := cellAt (o := 1) bx rfl
        have c2 := cellAt (o := 2) bx rfl
        clear bx
        go_wp2_with fail
        refine (CB.out _ HT.out).mono ?_
        rintro e w8 ⟨rfl, h7⟩
        replace HT := Lib.hid (HT.out.go (Star.obj (duo_obj _ _ _ _ _ _) (BoxO.obj _ _)) h7)
        clear h7 c0 c1 c2
        have bx := HT.out.got_box
        have c0 := cellAt (o := 0) bx rfl
        have c1 := cellAt (o := 1) bx rfl
        have c2 := cellAt (o := 2) bx rfl
        clear bx
        go_wp2_with fail
        refine (CC.out _ HT.out).mono ?_
        rintro e w9 ⟨rfl, h7⟩
        have HX := Lib.hid (newB w9 (Obj.cells #[.int .i64 pt, .int .i64 pn, .bool false] 45))
        obtain ⟨X, hX⟩ : ∃ X, w9.heap.size = X := ⟨_, rfl⟩
        replace HT := Lib.hid ((HT.out.go (Star.obj (duo_obj _ _ _ _ _ _) (BoxO.obj _ _)) h7).go (Star.obj (duo_obj _ _ _ _ _ _) (BoxO.obj _ _)) (below_alloc (Below.refl w9.heap.size w9) (Obj.cells #[.int .i64 pt, .int .i64 pn, .bool false] 45)))
        rw [hX] at HX
        clear h7 c0 c1 c2
        have bx := HT.out.got_box
        have c0 := cellAt (o := 0) bx rfl
        have c1 := cellAt (o := 1) bx rfl
        have c2 := cellAt (o := 2) bx rfl
        clear bx
        go_wp2_with fail
        clear hX
        refine (CD.out _ HT.out).mono ?_
        rintro e w10 ⟨rfl, h7⟩
        have HY := Lib.hid (newB w10 (Obj.cells #[.int .i64 pt, .int .i64 pn, .bool false] 45))
        obtain ⟨Y, hY⟩ : ∃ Y, w10.heap.size = Y := ⟨_, rfl⟩
        replace HX := Lib.hid (keepA (keepB HX.out h7) (Obj.cells #[.int .i64 pt, .int .i64 pn, .bool false] 45))
        replace HT := Lib.hid ((HT.out.go (Star.obj (duo_obj _ _ _ _ _ _) (BoxO.obj _ _)) h7).go (Star.obj (duo_obj _ _ _ _ _ _) (BoxO.obj _ _)) (below_alloc (Below.refl w10.heap.size w10) (Obj.cells #[.int .i64 pt, .int .i64 pn, .bool false] 45)))
        rw [hY] at HY
        clear h7 c0 c1 c2
        go_wp2_with fail
        clear hY
        obtain ⟨w11, hw11⟩ : ∃ w11, w10.alloc (Obj.cells #[.int .i64 pt, .int .i64 pn, .bool false] 45) = w11 := ⟨_, rfl⟩
        rw [hw11] at HT HX HY ⊢
        clear hw11
        obtain ⟨A9, c9, hr9⟩ : ∃ A9 c9, w11.heap[r]? = some (.cells #[.slice A9 nl c9, .int .i64 f'] 56 (0, 0)) := by
          obtain ⟨_, F, ⟨F1, _, ⟨_, G, _, h2, _⟩, _⟩, _⟩ := HT.out
          obtain ⟨A9, c9, g1, _⟩ := RbO.open h2
          rw [HNL.out] at g1
          exact ⟨A9, c9, g1⟩
        have HR9 := Lib.hid hr9
        clear hr9
        refine wp_region_here 35 [(0, false), (1, false), (2, false), (3, false), (4, false), (5, false), (6, false), (7, false), (8, false), (9, false), (10, false), (11, false), (12, false), (13, false), (14, false), (15, false), (16, false), (17, false), (18, false), (19, false), (20, false), (21, false), (22, false), (23, false), (24, false), (25, false), (26, false), (27, false), (28, false), (29, false), (30, false), (31, false), (32, false), (33, false), (34, false)] (fun _ => .cells #[] 0) (by kernel_rfl) (by kernel_rfl) ?_
        repeat (first | (refine wpP_q rfl rfl rfl ?_; apply Exists.intro; refine ⟨fun w' hw' => ?_, fun K hK => ?_⟩; (focus ((have j0 := cellAt (o := 0) (keepB HR9.out hw') rfl; have x0 := cellAt (o := 0) (keepB HX.out hw') rfl; have x1 := cellAt (o := 1) (keepB HX.out hw') rfl; have x2 := cellAt (o := 2) (keepB HX.out hw') rfl; have y0 := cellAt (o := 0) (keepB HY.out hw') rfl; have y1 := cellAt (o := 1) (keepB HY.out hw') rfl; have y2 := cellAt (o := 2) (keepB HY.out hw') rfl); go_simp; first | exact quiet_value | first | with_reducible exact quiet_enter (CE.out _ (HT.out.go (Star.obj (duo_obj _ _ _ _ _ _) (BoxO.obj _ _)) hw')) | with_reducible exact quiet_enter (CF.out _ (HT.out.go (Star.obj (duo_obj _ _ _ _ _ _) (BoxO.obj _ _)) hw')) | with_reducible exact quiet_enter (CG.out _ (HT.out.go (Star.obj (duo_obj _ _ _ _ _ _) (BoxO.obj _ _)) hw')))); simp only [Act.put, List.setIfInBounds_toArray, List.set_cons_zero, List.set_cons_succ]; refine hK.out _ ?_; clear hK K) | (refine wpP_skip rfl rfl rfl (fun K hK => ?_); simp only [Act.put, List.setIfInBounds_toArray, List.set_cons_zero, List.set_cons_succ]; refine hK.out _ ?_; clear hK K))
        refine wpP_nil ?_
        intro w12 hb12
        replace HT := Lib.hid ((HT.out.go (Star.obj (duo_obj _ _ _ _ _ _) (BoxO.obj _ _)) hb12).fst)
        clear hb12 HX HY HR9 CA CB CC CD CE CF CG
        (try simp only [List.drop_succ_cons]); (try simp only [List.drop_zero]); (try simp only [List.drop_nil])
        go_wp2_with fail
        go_roundw
        case rel => exact ⟨k + 1, P', f', HX0.out, rfl, HT, HP'⟩
        case measure =>
          have h1 := HX0.out
          simp [intOf]; omega
      · obtain ⟨x1, hq⟩ : ∃ x, putE t P f = x := ⟨_, rfl⟩
        obtain ⟨P', hp⟩ : ∃ P', putP t m P f = P' := ⟨_, rfl⟩
        obtain ⟨f', hf'⟩ : ∃ f', f = f' := ⟨_, rfl⟩
        have HP' : Hid (P'.length ≤ k + 1 ∧ TmIn P') := Lib.hid ⟨by rw [← hp]; have := putP_len (t := t) (m := m) (fl := f) HR.out; have := HP.out.1; omega, by rw [← hp]; exact putP_in HP.out.2⟩
        have hPl : P.length ≤ 65536 := by have := HP.out.1; omega
        have HC1 := Lib.hid (fun W (h : LM w (Star (Duo b r P f P f) (BoxO i (Obj.cells #[.int .i64 kd, .int .i64 t, .int .i64 m] 37))) W) => h.turnA (RbO.obj _ _ _) (BoxO.obj _ _) (fun F h => put_go t m hq hp h))
        have HC2 := Lib.hid (fun W (h : LM w (Star (Duo b r P' f P f) (BoxO i (Obj.cells #[.int .i64 kd, .int .i64 t, .int .i64 m] 37))) W) => h.turnB (BufO.obj _ _ _) (BoxO.obj _ _) (fun F h => by have := rput_any t m h HR.out hPl; rw [hq, hp] at this; exact this))
        clear hq hp hPl
        subst hf'
        obtain ⟨f', hf'⟩ : ∃ f', f = f' := ⟨_, rfl⟩
        subst hf'
        have hpb : (pk == 4) = false := by simpa using hp4
        have bx := HT.out.got_box
        have c0 := cellAt (o := 0) bx rfl
        have c1 := cellAt (o := 1) bx rfl
        have c2 := cellAt (o := 2) bx rfl
        clear bx
        go_wp2_with fail
        clear c0 c1 c2
        refine wp_region_fork 13 (.q 0 (.q 1 (.q 2 (.q 3 (.q 4 (.q 6 (.q 7 (.q 8 (.q 9 (.q 10 (.alt 5 (.alt 11 (.q 12 .nil) .stop) .stop))))))))))) (BxC w i (Obj.cells #[.int .i64 kd, .int .i64 t, .int .i64 m] 37)) (LM w (Star (Duo b r P f P f) (BoxO i (Obj.cells #[.int .i64 kd, .int .i64 t, .int .i64 m] 37)))) (by kernel_rfl) (by kernel_rfl) (BxC.stab _ _ _) (fun _ _ h hb => h.go (Star.obj (duo_obj _ _ _ _ _ _) (BoxO.obj _ _)) hb) ⟨HT.out.below.drew, HT.out.got_box⟩ (HT.out.go (Star.obj (duo_obj _ _ _ _ _ _) (BoxO.obj _ _)) (Below.refl _ _).drew) ?_
        repeat (first | (refine wf_q rfl rfl ?_; apply Exists.intro; refine ⟨fun w' hw' => ?_, fun K hK => ?_⟩; (focus ((have bx := hw'.2; have c0 := cellAt (o := 0) bx rfl; have c1 := cellAt (o := 1) bx rfl; have c2 := cellAt (o := 2) bx rfl; clear bx); go_simp; first | exact quiet_value | fail)); simp only [Act.put, List.setIfInBounds_toArray, List.set_cons_zero, List.set_cons_succ]; refine hK.out _ ?_; clear hK K) | (refine wf_skip rfl rfl (fun K hK => ?_); simp only [Act.put, List.setIfInBounds_toArray, List.set_cons_zero, List.set_cons_succ]; refine hK.out _ ?_; clear hK K) | (refine wf_skipu rfl rfl (fun K hK => ?_); simp only [Act.put, List.setIfInBounds_toArray, List.set_cons_zero, List.set_cons_succ]; refine hK.out _ ?_; clear hK K))
        refine wf_step (fun u _ => u = .int .i64 x1) (fun _ W => LM w (Star (Duo b r P' f P f) (BoxO i (Obj.cells #[.int .i64 kd, .int .i64 t, .int .i64 m] 37))) W) (fun _ _ _ h _ => h) (fun _ _ _ h hb => h.go (Star.obj (duo_obj _ _ _ _ _ _) (BoxO.obj _ _)) hb) rfl rfl (fun w' hc hd => ?_) (fun K hK v => ?_) wf_stop
        focus
          have HC := Lib.hid hc
          have HDD := Lib.hid hd
          clear hc hd
          go_simp
          refine st_enter ?_
          exact (HC1.out _ HDD.out).mono fun _ _ h => ⟨_, h.1, ⟨h.2.below, h.2.got_box⟩, rfl, h.2⟩
        simp only [Act.put, List.setIfInBounds_toArray, List.set_cons_zero, List.set_cons_succ]
        refine hK.out _ _ _ ?_
        clear hK K
        refine wf_step (fun u _ => u = .int .i64 x1) (fun _ W => LM w (Star (Duo b r P' f P' f) (BoxO i (Obj.cells #[.int .i64 kd, .int .i64 t, .int .i64 m] 37))) W) (fun _ _ _ h _ => h) (fun _ _ _ h hb => h.go (Star.obj (duo_obj _ _ _ _ _ _) (BoxO.obj _ _)) hb) rfl rfl (fun w' hc hd => ?_) (fun K hK v2 => ?_) wf_stop
        focus
          have HC := Lib.hid hc
          have HDD := Lib.hid hd
          clear hc hd
          go_simp
          refine st_enter ?_
          exact (HC2.out _ HDD.out).mono fun _ _ h => ⟨_, h.1, ⟨⟨h.2.below, h.2.got_box⟩, HC.out.2⟩, rfl, h.2⟩
        simp only [Act.put, List.setIfInBounds_toArray, List.set_cons_zero, List.set_cons_succ]
        refine hK.out _ _ _ ?_
        clear hK K
        repeat (first | (refine wf_q rfl rfl ?_; apply Exists.intro; refine ⟨fun w' hw' => ?_, fun K hK => ?_⟩; (focus ((obtain ⟨⟨_, e1⟩, e2⟩ := hw'; subst e1 e2); go_simp; first | exact quiet_value | fail)); simp only [Act.put, List.setIfInBounds_toArray, List.set_cons_zero, List.set_cons_succ]; refine hK.out _ ?_; clear hK K) | (refine wf_skip rfl rfl (fun K hK => ?_); simp only [Act.put, List.setIfInBounds_toArray, List.set_cons_zero, List.set_cons_succ]; refine hK.out _ ?_; clear hK K) | (refine wf_skipu rfl rfl (fun K hK => ?_); simp only [Act.put, List.setIfInBounds_toArray, List.set_cons_zero, List.set_cons_succ]; refine hK.out _ ?_; clear hK K))
        refine wf_nil ?_
        rintro w7 ⟨⟨hb7, rfl⟩, rfl⟩ ht7
        replace HT := Lib.hid ht7
        obtain ⟨f', hf'⟩ : ∃ f', f = f' := ⟨_, rfl⟩
        rw [hf'] at HT
        clear hb7 ht7 HC1 HC2 hf'
        (try simp only [List.drop_succ_cons]); (try simp only [List.drop_zero]); (try simp only [List.drop_nil])
        obtain ⟨an, ab, hA2⟩ : ∃ an ai, atP m P' = (an, ai) := ⟨_, _, rfl⟩
        obtain ⟨lo, hlo⟩ : ∃ lo, lastP m P' = lo := ⟨_, rfl⟩
        obtain ⟨⟨pt, pn⟩, hpp⟩ : ∃ p, lo.getD (0, 0) = p := ⟨_, rfl⟩
        obtain ⟨pi, hpi⟩ : ∃ b, lo.isSome = b := ⟨_, rfl⟩
        obtain ⟨nl, hnl⟩ : ∃ n, P'.length = n := ⟨_, rfl⟩
        have HTm := HP'.out.2
        have HL6 : P'.length ≤ 65536 := by have := HP'.out.1; have := HNm.out; omega
        have CA := Lib.hid (fun W (h : LM w (Star (Duo b r P' f' P' f') (BoxO i (Obj.cells #[.int .i64 kd, .int .i64 t, .int .i64 m] 37))) W) => h.read1 (fun _ ⟨F, _, h1, _⟩ => bAt_any m h1))
        have CB := Lib.hid (fun W (h : LM w (Star (Duo b r P' f' P' f') (BoxO i (Obj.cells #[.int .i64 kd, .int .i64 t, .int .i64 m] 37))) W) => h.read1 (fun _ ⟨_, G, _, h2, _⟩ => rat_any m h2 HL6))
        have CC := Lib.hid (fun W (h : LM w (Star (Duo b r P' f' P' f') (BoxO i (Obj.cells #[.int .i64 kd, .int .i64 t, .int .i64 m] 37))) W) => h.read1 (fun _ ⟨F, _, h1, _⟩ => bLast_any m h1))
        have CD := Lib.hid (fun W (h : LM w (Star (Duo b r P' f' P' f') (BoxO i (Obj.cells #[.int .i64 kd, .int .i64 t, .int .i64 m] 37))) W) => h.read1 (fun _ ⟨_, G, _, h2, _⟩ => rlast_any m HTm h2 HL6))
        have CE := Lib.hid (fun W (h : LM w (Star (Duo b r P' f' P' f') (BoxO i (Obj.cells #[.int .i64 kd, .int .i64 t, .int .i64 m] 37))) W) => h.read1 (fun _ ⟨F, _, h1, _⟩ => len_go hnl h1))
        have CF := Lib.hid (fun W (h : LM w (Star (Duo b r P' f' P' f') (BoxO i (Obj.cells #[.int .i64 kd, .int .i64 t, .int .i64 m] 37))) W) => h.read1 (fun _ ⟨F, _, h1, _⟩ => floor_go h1))
        have CG := Lib.hid (fun W (h : LM w (Star (Duo b r P' f' P' f') (BoxO i (Obj.cells #[.int .i64 kd, .int .i64 t, .int .i64 m] 37))) W) => h.read1 (fun _ ⟨_, G, _, h2, _⟩ => rfloor_any h2 HL6))
        have HNL := Lib.hid hnl
        rw [hA2] at CA CB
        rw [hlo] at CC CD
        unfold lastV at CC CD
        rw [hpp, hpi] at CC CD
        simp only at CA CB CC CD
        clear hA2 hlo hpp hpi hnl HTm HL6
        have bx := HT.out.got_box
        have c0 := cellAt (o := 0) bx rfl
        have c1 := cellAt (o := 1) bx rfl
        have c2 := cellAt (o := 2) bx rfl
        clear bx
        go_wp2_with fail
        refine (CA.out _ HT.out).mono ?_
        rintro e w7 ⟨rfl, h7⟩
        replace HT := Lib.hid (HT.out.go (Star.obj (duo_obj _ _ _ _ _ _) (BoxO.obj _ _)) h7)
        clear h7 c0 c1 c2
        have bx := HT.out.got_box
        have c0 := cellAt (o := 0) bx rfl
        have c1 := cellAt (o := 1) bx rfl
        have c2 := cellAt (o := 2) bx rfl
        clear bx
        go_wp2_with fail
        refine (CB.out _ HT.out).mono ?_
        rintro e w8 ⟨rfl, h7⟩
        replace HT := Lib.hid (HT.out.go (Star.obj (duo_obj _ _ _ _ _ _) (BoxO.obj _ _)) h7)
        clear h7 c0 c1 c2
        have bx := HT.out.got_box
        have c0 := cellAt (o := 0) bx rfl
        have c1 := cellAt (o := 1) bx rfl
        have c2 := cellAt (o := 2) bx rfl
        clear bx
        go_wp2_with fail
        refine (CC.out _ HT.out).mono ?_
        rintro e w9 ⟨rfl, h7⟩
        have HX := Lib.hid (newB w9 (Obj.cells #[.int .i64 pt, .int .i64 pn, .bool false] 45))
        obtain ⟨X, hX⟩ : ∃ X, w9.heap.size = X := ⟨_, rfl⟩
        replace HT := Lib.hid ((HT.out.go (Star.obj (duo_obj _ _ _ _ _ _) (BoxO.obj _ _)) h7).go (Star.obj (duo_obj _ _ _ _ _ _) (BoxO.obj _ _)) (below_alloc (Below.refl w9.heap.size w9) (Obj.cells #[.int .i64 pt, .int .i64 pn, .bool false] 45)))
        rw [hX] at HX
        clear h7 c0 c1 c2
        have bx := HT.out.got_box
        have c0 := cellAt (o := 0) bx rfl
        have c1 := cellAt (o := 1) bx rfl
        have c2 := cellAt (o := 2) bx rfl
        clear bx
        go_wp2_with fail
        clear hX
        refine (CD.out _ HT.out).mono ?_
        rintro e w10 ⟨rfl, h7⟩
        have HY := Lib.hid (newB w10 (Obj.cells #[.int .i64 pt, .int .i64 pn, .bool false] 45))
        obtain ⟨Y, hY⟩ : ∃ Y, w10.heap.size = Y := ⟨_, rfl⟩
        replace HX := Lib.hid (keepA (keepB HX.out h7) (Obj.cells #[.int .i64 pt, .int .i64 pn, .bool false] 45))
        replace HT := Lib.hid ((HT.out.go (Star.obj (duo_obj _ _ _ _ _ _) (BoxO.obj _ _)) h7).go (Star.obj (duo_obj _ _ _ _ _ _) (BoxO.obj _ _)) (below_alloc (Below.refl w10.heap.size w10) (Obj.cells #[.int .i64 pt, .int .i64 pn, .bool false] 45)))
        rw [hY] at HY
        clear h7 c0 c1 c2
        go_wp2_with fail
        clear hY
        obtain ⟨w11, hw11⟩ : ∃ w11, w10.alloc (Obj.cells #[.int .i64 pt, .int .i64 pn, .bool false] 45) = w11 := ⟨_, rfl⟩
        rw [hw11] at HT HX HY ⊢
        clear hw11
        obtain ⟨A9, c9, hr9⟩ : ∃ A9 c9, w11.heap[r]? = some (.cells #[.slice A9 nl c9, .int .i64 f'] 56 (0, 0)) := by
          obtain ⟨_, F, ⟨F1, _, ⟨_, G, _, h2, _⟩, _⟩, _⟩ := HT.out
          obtain ⟨A9, c9, g1, _⟩ := RbO.open h2
          rw [HNL.out] at g1
          exact ⟨A9, c9, g1⟩
        have HR9 := Lib.hid hr9
        clear hr9
        refine wp_region_here 35 [(0, false), (1, false), (2, false), (3, false), (4, false), (5, false), (6, false), (7, false), (8, false), (9, false), (10, false), (11, false), (12, false), (13, false), (14, false), (15, false), (16, false), (17, false), (18, false), (19, false), (20, false), (21, false), (22, false), (23, false), (24, false), (25, false), (26, false), (27, false), (28, false), (29, false), (30, false), (31, false), (32, false), (33, false), (34, false)] (fun _ => .cells #[] 0) (by kernel_rfl) (by kernel_rfl) ?_
        repeat (first | (refine wpP_q rfl rfl rfl ?_; apply Exists.intro; refine ⟨fun w' hw' => ?_, fun K hK => ?_⟩; (focus ((have j0 := cellAt (o := 0) (keepB HR9.out hw') rfl; have x0 := cellAt (o := 0) (keepB HX.out hw') rfl; have x1 := cellAt (o := 1) (keepB HX.out hw') rfl; have x2 := cellAt (o := 2) (keepB HX.out hw') rfl; have y0 := cellAt (o := 0) (keepB HY.out hw') rfl; have y1 := cellAt (o := 1) (keepB HY.out hw') rfl; have y2 := cellAt (o := 2) (keepB HY.out hw') rfl); go_simp; first | exact quiet_value | first | with_reducible exact quiet_enter (CE.out _ (HT.out.go (Star.obj (duo_obj _ _ _ _ _ _) (BoxO.obj _ _)) hw')) | with_reducible exact quiet_enter (CF.out _ (HT.out.go (Star.obj (duo_obj _ _ _ _ _ _) (BoxO.obj _ _)) hw')) | with_reducible exact quiet_enter (CG.out _ (HT.out.go (Star.obj (duo_obj _ _ _ _ _ _) (BoxO.obj _ _)) hw')))); simp only [Act.put, List.setIfInBounds_toArray, List.set_cons_zero, List.set_cons_succ]; refine hK.out _ ?_; clear hK K) | (refine wpP_skip rfl rfl rfl (fun K hK => ?_); simp only [Act.put, List.setIfInBounds_toArray, List.set_cons_zero, List.set_cons_succ]; refine hK.out _ ?_; clear hK K))
        refine wpP_nil ?_
        intro w12 hb12
        replace HT := Lib.hid ((HT.out.go (Star.obj (duo_obj _ _ _ _ _ _) (BoxO.obj _ _)) hb12).fst)
        clear hb12 HX HY HR9 CA CB CC CD CE CF CG
        (try simp only [List.drop_succ_cons]); (try simp only [List.drop_zero]); (try simp only [List.drop_nil])
        go_wp2_with fail
        go_roundw
        case rel => exact ⟨k + 1, P', f', HX0.out, rfl, HT, HP'⟩
        case measure =>
          have h1 := HX0.out
          simp [intOf]; omega
    · obtain rfl : k = N := by omega
      have hnm := HNm.out
      obtain ⟨c, d, he⟩ : ∃ c d, endsP P = (c, d) := ⟨_, _, rfl⟩
      obtain ⟨n0, hn0⟩ : ∃ n, P.length = n := ⟨_, rfl⟩
      obtain ⟨L, hL⟩ : ∃ L, rangeP x y P = L := ⟨_, rfl⟩
      obtain ⟨n1, hn1⟩ : ∃ n, L.length = n := ⟨_, rfl⟩
      have hr1 : n1 ≤ n0 := by rw [← hn1, ← hn0, ← hL]; exact List.length_filter_le _ _
      have hr0 : n0 ≤ 400 := by rw [← hn0]; have := HP.out.1; omega
      have HPl : P.length ≤ 65536 := by omega
      have HTi := Lib.hid HP.out.2
      have C1 := Lib.hid (fun W (h : LM w (Duo b r P f P f) W) => h.read1 (fun F h => ends_go he h))
      have C2 := Lib.hid (fun W (h : LM w (Duo b r P f P f) W) => h.read2 (fun F h => rends_any he h HPl))
      have C3 := Lib.hid (fun W (h : LM w (Duo b r P f P f) W) => h.read1 (fun F h => range_go x y hL hn1 h))
      have C4 := Lib.hid (fun W (h : LM w (Duo b r P f P f) W) => h.read2 (fun F h => by have := rrange_any x y h HPl; rw [hL, hn1] at this; exact this))
      have C5 := Lib.hid (fun W (h : LM w (Duo b r P f P f) W) => h.read1 (fun F h => pts_go (above_zero HTi.out) hn0 h))
      have HN0 := Lib.hid hn0
      have HN1 := Lib.hid hn1
      clear he hn0 hL hn1 HPl
      go_wp2_with fail
      refine (C1.out _ HT.out).mono ?_
      rintro e w5 ⟨rfl, h7⟩
      replace HT := Lib.hid (HT.out.go (duo_obj _ _ _ _ _ _) h7)
      clear h7
      go_wp2_with fail
      refine (C2.out _ HT.out).mono ?_
      rintro e w6 ⟨rfl, h7⟩
      replace HT := Lib.hid (HT.out.go (duo_obj _ _ _ _ _ _) h7)
      clear h7
      go_wp2_with fail
      obtain ⟨A9, c9, hr9, hr8⟩ : ∃ A9 c9, w6.heap[r]? = some (.cells #[.slice A9 n0 c9, .int .i64 f] 56 (0, 0)) ∧ w6.ownsRow 0 45 3 (.slice A9 n0 c9) n0 (pcs P) := by
        obtain ⟨_, F, ⟨_, G, _, h2, _⟩, _⟩ := HT.out
        obtain ⟨A9, c9, g1, g2, _⟩ := RbO.open h2
        rw [HN0.out] at g1 g2
        exact ⟨A9, c9, g1, g2⟩
      have HR9 := Lib.hid hr9
      have HR8 := Lib.hid hr8
      clear hr9 hr8
      refine wp_region_fork 29 (.q 0 (.q 1 (.q 2 (.q 3 (.q 4 (.q 5 (.q 6 (.q 7 (.q 8 (.q 9 (.q 10 (.q 11 (.q 13 (.q 14 (.q 15 (.alt 12 (.alt 16 (.q 17 (.q 18 (.q 19 (.q 20 (.q 22 (.q 23 (.q 24 (.q 25 (.alt 21 (.q 26 (.q 27 (.q 28 .nil))) .stop))))))))) .stop) .stop)))))))))))))))) (Below w6.heap.size w6) Triv (by kernel_rfl) (by kernel_rfl) (Stab.below _ _ (Nat.le_refl _)) Triv.stab ((Below.refl _ _).drew) (triv _) ?_
      repeat (first | (refine wf_q rfl rfl ?_; apply Exists.intro; refine ⟨fun w' hw' => ?_, fun K hK => ?_⟩; (focus ((skip); go_simp; first | exact quiet_value | fail)); simp only [Act.put, List.setIfInBounds_toArray, List.set_cons_zero, List.set_cons_succ]; refine hK.out _ ?_; clear hK K) | (refine wf_skip rfl rfl (fun K hK => ?_); simp only [Act.put, List.setIfInBounds_toArray, List.set_cons_zero, List.set_cons_succ]; refine hK.out _ ?_; clear hK K) | (refine wf_skipu rfl rfl (fun K hK => ?_); simp only [Act.put, List.setIfInBounds_toArray, List.set_cons_zero, List.set_cons_succ]; refine hK.out _ ?_; clear hK K))
      refine wf_step (PtsR n1 L) (fun _ => Triv) (PtsR.stab n1 L) (fun _ => Triv.stab) rfl rfl (fun w' hc hd => ?_) (fun K hK v => ?_) wf_stop
      focus
        have HC := Lib.hid hc
        clear hc hd
        go_simp
        refine st_enter ?_
        exact (C3.out _ (HT.out.go (duo_obj _ _ _ _ _ _) HC.out)).mono fun e W' ⟨a, c, h1, h2, h3⟩ => ⟨_, h1, HC.out.trans (h3.mono HC.out.size), ⟨a, c, _, rfl, h2⟩, triv _⟩
      simp only [Act.put, List.setIfInBounds_toArray, List.set_cons_zero, List.set_cons_succ]
      refine hK.out _ _ _ ?_
      clear hK K
      refine wf_step (PtsR n1 L) (fun _ => Triv) (PtsR.stab n1 L) (fun _ => Triv.stab) rfl rfl (fun w' hc hd => ?_) (fun K hK v2 => ?_) wf_stop
      focus
        have HC := Lib.hid hc
        clear hc hd
        go_simp
        refine st_enter ?_
        exact (C4.out _ (HT.out.go (duo_obj _ _ _ _ _ _) HC.out.1)).mono fun e W' ⟨u, h1, h2, h3⟩ => ⟨u, h1, ⟨HC.out.1.trans (h3.mono HC.out.1.size), PtsR.stab _ _ _ _ _ HC.out.2 h3⟩, by obtain ⟨a, c, rfl⟩ := or_form h2; exact ⟨a, c, _, rfl, h2⟩, triv _⟩
      simp only [Act.put, List.setIfInBounds_toArray, List.set_cons_zero, List.set_cons_succ]
      refine hK.out _ _ _ ?_
      clear hK K
      repeat (first | (refine wf_q rfl rfl ?_; apply Exists.intro; refine ⟨fun w' hw' => ?_, fun K hK => ?_⟩; (focus ((obtain ⟨⟨hb0, a1, d1, e1, rfl, r1⟩, a2, d2, e2, rfl, r2⟩ := hw'; have j0 := cellAt (o := 0) (keepB HR9.out hb0) rfl); go_simp; first | exact quiet_value | exact quiet_enter (kpts_any r1 r2 HN1.out (by omega)))); simp only [Act.put, List.setIfInBounds_toArray, List.set_cons_zero, List.set_cons_succ]; refine hK.out _ ?_; clear hK K) | (refine wf_skip rfl rfl (fun K hK => ?_); simp only [Act.put, List.setIfInBounds_toArray, List.set_cons_zero, List.set_cons_succ]; refine hK.out _ ?_; clear hK K) | (refine wf_skipu rfl rfl (fun K hK => ?_); simp only [Act.put, List.setIfInBounds_toArray, List.set_cons_zero, List.set_cons_succ]; refine hK.out _ ?_; clear hK K))
      refine wf_step (PtsR n0 P) (fun _ => Triv) (PtsR.stab n0 P) (fun _ => Triv.stab) rfl rfl (fun w' hc hd => ?_) (fun K hK v3 => ?_) wf_stop
      focus
        have HC := Lib.hid hc
        clear hc hd
        go_simp
        refine st_enter ?_
        exact (C5.out _ (HT.out.go (duo_obj _ _ _ _ _ _) HC.out.1.1)).mono fun e W' ⟨a, c, h1, h2, h3⟩ => ⟨_, h1, ⟨⟨HC.out.1.1.trans (h3.mono HC.out.1.1.size), PtsR.stab _ _ _ _ _ HC.out.1.2 h3⟩, PtsR.stab _ _ _ _ _ HC.out.2 h3⟩, ⟨a, c, _, rfl, h2⟩, triv _⟩
      simp only [Act.put, List.setIfInBounds_toArray, List.set_cons_zero, List.set_cons_succ]
      refine hK.out _ _ _ ?_
      clear hK K
      repeat (first | (refine wf_q rfl rfl ?_; apply Exists.intro; refine ⟨fun w' hw' => ?_, fun K hK => ?_⟩; (focus ((obtain ⟨⟨⟨hb0, _⟩, _⟩, a1, d1, e1, rfl, r1⟩ := hw'); go_simp; first | exact quiet_value | exact quiet_enter (kpts_any r1 (or_below HR8.out hb0) HN0.out (by omega)))); simp only [Act.put, List.setIfInBounds_toArray, List.set_cons_zero, List.set_cons_succ]; refine hK.out _ ?_; clear hK K) | (refine wf_skip rfl rfl (fun K hK => ?_); simp only [Act.put, List.setIfInBounds_toArray, List.set_cons_zero, List.set_cons_succ]; refine hK.out _ ?_; clear hK K) | (refine wf_skipu rfl rfl (fun K hK => ?_); simp only [Act.put, List.setIfInBounds_toArray, List.set_cons_zero, List.set_cons_succ]; refine hK.out _ ?_; clear hK K))
      refine wf_nil ?_
      rintro w12 ⟨⟨⟨hb, _⟩, _⟩, _⟩ _
      have HE := Lib.hid (HT.out.go (duo_obj _ _ _ _ _ _) hb).below
      clear hb
      (try simp only [List.drop_succ_cons]); (try simp only [List.drop_zero]); (try simp only [List.drop_nil])
      go_wp2_with fail
      go_ret
      exact ⟨rfl, HE.out⟩
end Go.Proofs.Ytfblmmnofhkkaaa
