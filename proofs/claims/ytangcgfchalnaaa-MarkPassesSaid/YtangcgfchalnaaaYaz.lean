/- Parts of the proof: MkV MkL Law OpM. -/
import Derived.Test.YtangcgfchalnaaaYay
import Derived.Test.YtangcgfchalnaaaYam
import Derived.Test.YtangcgfchalnaaaRows
import Derived.Test.YtangcgfchalnaaaYaa
import Derived.Test.YtangcgfchalnaaaProg
import Derived.ProofKit
import Derived.OpenShut
import Derived.Carry
import Derived.ChangeSame
import Derived.Lib.SmallJoins
import Derived.Deep.Slices
import Derived.ChangeSlices
/- mark: the chapter's examples (lives). -/
namespace Go.Proofs.Ytangcgfchalnaaa
open Go.RowKit
abbrev m0 : ByteArray := ⟨#[99, 112, 117]⟩
abbrev L0 : List Lb := [(⟨#[97]⟩, ⟨#[120]⟩)]
theorem lv_e1 : mayE 3 0 [] m0 L0 5 = 0 := by decide +kernel
theorem lv_s1 : putSS 3 0 [] m0 L0 5 1 = [((m0, L0), [(5, 1)])] := by decide +kernel
theorem lv_m1 : putMo 3 0 [] m0 L0 5 = 5 := by decide +kernel
theorem lv_e2 : mayE 3 5 [((m0, L0), [(5, 1)])] m0 L0 9 = 0 := by decide +kernel
theorem lv_s2 : putSS 3 5 [((m0, L0), [(5, 1)])] m0 L0 9 2 = [((m0, L0), [(5, 1), (9, 2)])] := by decide +kernel
theorem lv_m2 : putMo 3 5 [((m0, L0), [(5, 1)])] m0 L0 9 = 9 := by decide +kernel
theorem lv_e3 : mayE 3 9 [((m0, L0), [(5, 1), (9, 2)])] m0 L0 6 = 8 := by decide +kernel
theorem lv_s3 (x : Int) : putSS 3 9 [((m0, L0), [(5, 1), (9, 2)])] m0 L0 6 x = [((m0, L0), [(5, 1), (9, 2)])] := by unfold putSS; rw [lv_e3]; rfl
theorem lv_m3 : putMo 3 9 [((m0, L0), [(5, 1), (9, 2)])] m0 L0 6 = 9 := by decide +kernel
theorem lv_e4 : mayE 3 9 [((m0, L0), [(5, 1), (9, 2)])] m0 L0 5 = 8 := by decide +kernel
theorem lv_s4 (x : Int) : putSS 3 9 [((m0, L0), [(5, 1), (9, 2)])] m0 L0 5 x = [((m0, L0), [(5, 1), (9, 2)])] := by unfold putSS; rw [lv_e4]; rfl
theorem lv_m4 : putMo 3 9 [((m0, L0), [(5, 1), (9, 2)])] m0 L0 5 = 9 := by decide +kernel
theorem lv_e5 : mayE 3 9 [((m0, L0), [(5, 1), (9, 2)])] m0 L0 8 = 0 := by decide +kernel
theorem lv_s5 : putSS 3 9 [((m0, L0), [(5, 1), (9, 2)])] m0 L0 8 4 = [((m0, L0), [(5, 1), (8, 4), (9, 2)])] := by decide +kernel
theorem lv_m5 : putMo 3 9 [((m0, L0), [(5, 1), (9, 2)])] m0 L0 8 = 9 := by decide +kernel
theorem lv_e6 : mayE 3 9 [((m0, L0), [(5, 1), (8, 4), (9, 2)])] m0 L0 8 = 7 := by decide +kernel
theorem lv_bt : btE 0 6 ([((m0, L0), [(5, 1), (8, 4), (9, 2)])].map (fun y : SrP => y.2)) = [(5, 1, 1)] := by decide +kernel
theorem lv_small : smallS m0 L0 := by
  refine ⟨by decide, ?_⟩
  unfold smallL
  decide
set_option maxRecDepth 100000 in
theorem set_x (w : World) : Calls Try.prog 50 #[.string ⟨#[120]⟩, .string ⟨#[]⟩] w fun e w' => ∃ A c, e = .returned (.slice A 1 c) ∧ w'.ownsRow w.heap.size 90 2 (.slice A 1 c) 1 (lbF L0) ∧ Below w.heap.size w w' := by
  have HA := Lib.hid (below_alloc (Below.refl w.heap.size w) (.cells #[.string ⟨#[97]⟩, .string ⟨#[120]⟩] 90))
  have HAn := Lib.hid (newB w (.cells #[.string ⟨#[97]⟩, .string ⟨#[120]⟩] 90))
  have HRd : Hid (Reads (w.alloc (.cells #[.string ⟨#[97]⟩, .string ⟨#[120]⟩] 90)) (w.alloc (.cells #[.string ⟨#[97]⟩, .string ⟨#[120]⟩] 90)).heap.size 2 (some ⟨w.heap.size, 0, none⟩) 1 (lbF L0)) := Lib.hid ⟨rfl, fun _ => ⟨_, rfl, only_lt HAn.out, World.news_of_block (by simpa [lbF] using HAn.out)⟩⟩
  go_enter Try.func50, Try.ntmps50
  go_wp2_with (at_builtin; go_loud (refine wpL_lbs rfl _ _ rfl w.heap.size _ [] 0 rfl (World.ownsRow_nil _ _ _ _) _ _ _ L0 rfl HRd.out (by omega) HA.out.size ?o5))
  case o5 =>
    intro v' w' hr hg _
    have HB := Lib.hid (HA.out.grown hg HA.out.size (fun k e => by cases e))
    obtain ⟨A, c, rfl⟩ := or_form hr
    have HR := Lib.hid hr
    clear hr hg
    go_wp2_with fail
    refine bodyPost_ret (v := .slice A 1 c) (by simp only [results, Try.results50]; go_simp) rfl ⟨A, c, rfl, ?_, HB.out⟩
    exact HR.out
set_option maxRecDepth 100000 in
theorem cpu_x (t x : Int) (w : World) : Calls Try.prog 23 #[.string ⟨#[120]⟩, .int .i64 t, .int .i64 x] w fun e w' => ∃ A c, e = .returned (.agg #[.string m0, .slice A 1 c, .int .i64 t, .int .i64 x]) ∧ RdLb w' A L0 ∧ Below w.heap.size w w' := by
  have HX := Lib.hid (newB w (.cells #[.string ⟨#[]⟩, .slice none 0 0, .int .i64 0, .int .i64 0] 34))
  have HB := Lib.hid (below_alloc (Below.refl w.heap.size w) (.cells #[.string ⟨#[]⟩, .slice none 0 0, .int .i64 0, .int .i64 0] 34))
  have CS := Lib.hid (set_x (w.alloc (.cells #[.string ⟨#[]⟩, .slice none 0 0, .int .i64 0, .int .i64 0] 34)))
  go_enter Try.func23, Try.ntmps23
  go_wp2_with fail
  refine CS.out.mono ?_
  rintro e w1 ⟨A, c, rfl, hr, hb⟩
  have HX1 := Lib.hid (keepB HX.out hb)
  have H1 := Lib.hid (And.intro hr hb)
  have d0 := cellAt (o := 0) HX1.out rfl
  have d1 := cellAt (o := 1) HX1.out rfl
  have d2 := cellAt (o := 2) HX1.out rfl
  have d3 := cellAt (o := 3) HX1.out rfl
  have f0 := freeAt 0 HX1.out
  have f1 := freeAt 1 HX1.out
  have f2 := freeAt 2 HX1.out
  have f3 := freeAt 3 HX1.out
  clear hr hb CS
  go_wp2_with fail
  clear d0 d1 d2 d3 f0 f1 f2 f3
  have hf := setCell_get (o := 3) (u := .int .i64 x) (setCell_get (o := 2) (u := .int .i64 t) (setCell_get (o := 1) (u := .slice A 1 c) (setCell_get (o := 0) (u := .string m0) HX1.out)))
  have hO : Only (fun k => k = w.heap.size) w1 ((((w1.setCell ⟨w.heap.size, 0, none⟩ (.string m0)).setCell ⟨w.heap.size, 1, none⟩ (.slice A 1 c)).setCell ⟨w.heap.size, 2, none⟩ (.int .i64 t)).setCell ⟨w.heap.size, 3, none⟩ (.int .i64 x)) :=
    (((Only.set w1 w.heap.size 0 _).trans (Only.set _ w.heap.size 1 _)).trans (Only.set _ w.heap.size 2 _)).trans (Only.set _ w.heap.size 3 _)
  obtain ⟨w5, hw5⟩ : ∃ W, (((w1.setCell ⟨w.heap.size, 0, none⟩ (.string m0)).setCell ⟨w.heap.size, 1, none⟩ (.slice A 1 c)).setCell ⟨w.heap.size, 2, none⟩ (.int .i64 t)).setCell ⟨w.heap.size, 3, none⟩ (.int .i64 x) = W := ⟨_, rfl⟩
  rw [hw5] at hf hO ⊢
  have d0 := cellAt (o := 0) (v := .string m0) hf rfl
  have d1 := cellAt (o := 1) (v := .slice A 1 c) hf rfl
  have d2 := cellAt (o := 2) (v := .int .i64 t) hf rfl
  have d3 := cellAt (o := 3) (v := .int .i64 x) hf rfl
  have HO := Lib.hid hO
  clear hf hO hw5
  refine bodyPost_ret (v := .agg #[.string m0, .slice A 1 c, .int .i64 t, .int .i64 x]) (by simp only [results, Try.results23]; go_simp) rfl ⟨A, c, rfl, ?_, ?_⟩
  · exact Reads.of_own (or_only H1.out.1 HO.out (fun k hk e => by
      have e : k = w.heap.size := e
      have h1 := (World.ownsRow.lt H1.out.1 k hk).1
      rw [alloc_size] at h1
      omega))
  · have h1 := HB.out.trans (H1.out.2.mono HB.out.size)
    exact h1.trans (HO.out.below (fun k e => by rw [show k = w.heap.size from e]; exact Nat.le_refl _) h1.size)
/-- One sample put. -/
theorem mput_go {w : World} {F : Nat → Prop} {i c : Nat} {la mo pa mo' : Int} {S S' : List SrP} {A : Option Addr} (tm x : Int) {E : Int} (he : mayE la mo S m0 L0 tm = E) (hs : putSS la mo S m0 L0 tm x = S') (hm : putMo la mo S m0 L0 tm = mo') (hr : RdLb w A L0) (hl : S.length ≤ 1000) (h : IntO i la mo pa S w F) :
    Calls Try.prog 9 #[iptr i, .agg #[.string m0, .slice A 1 c, .int .i64 tm, .int .i64 x]] w fun e w' => e = .returned (.int .i64 E) ∧ Goes (IntO i la mo' pa S') F w w' := by
  subst he hs hm
  exact mput_any h rfl hr lv_small hl
set_option maxHeartbeats 8000000 in
set_option maxRecDepth 100000 in
theorem lives_any (w : World) : Calls Try.prog 6 #[] w fun e w' => e = .returned (.bool true) ∧ Below w.heap.size w w' := by
  have C0 := Lib.hid (mnew_any (la := 3) w (by omega) (by omega))
  go_enter Try.func6, Try.ntmps6
  go_wp2_with fail
  refine C0.out.mono ?_
  rintro e w1 ⟨i, rfl, h1, h2⟩
  have HS := Lib.hid (LM.first (w0 := w) (Below.refl _ _) h2 h1 (fun _ h => h))
  clear h1 h2 C0
  go_wp2_with fail
  refine (cpu_x 5 1 _).mono ?_
  rintro e w1 ⟨A, c, rfl, hr, hb⟩
  have HR := Lib.hid hr
  replace HS := Lib.hid (HS.out.go (IntO.obj _ _ _ _ _) hb)
  clear hr hb
  go_wp2_with fail
  refine (HS.out.turn (fun F h => mput_go 5 1 lv_e1 lv_s1 lv_m1 HR.out (by simp) h)).mono ?_
  rintro e w2 ⟨rfl, hS⟩
  replace HS := Lib.hid hS
  clear hS HR
  go_wp2_with fail
  refine (cpu_x 9 2 _).mono ?_
  rintro e w1 ⟨A, c, rfl, hr, hb⟩
  have HR := Lib.hid hr
  replace HS := Lib.hid (HS.out.go (IntO.obj _ _ _ _ _) hb)
  clear hr hb
  go_wp2_with fail
  refine (HS.out.turn (fun F h => mput_go 9 2 lv_e2 lv_s2 lv_m2 HR.out (by simp) h)).mono ?_
  rintro e w2 ⟨rfl, hS⟩
  replace HS := Lib.hid hS
  clear hS HR
  go_wp2_with fail
  refine (HS.out.read (fun F h => mmark_any h)).mono ?_
  rintro e w2 ⟨rfl, hb⟩
  replace HS := Lib.hid (HS.out.go (IntO.obj _ _ _ _ _) hb)
  rw [show mkI 3 9 = 6 from by decide]
  clear hb
  go_wp2_with fail
  refine (cpu_x 6 3 _).mono ?_
  rintro e w1 ⟨A, c, rfl, hr, hb⟩
  have HR := Lib.hid hr
  replace HS := Lib.hid (HS.out.go (IntO.obj _ _ _ _ _) hb)
  clear hr hb
  go_wp2_with fail
  refine (HS.out.turn (fun F h => mput_go 6 3 lv_e3 (lv_s3 3) lv_m3 HR.out (by simp) h)).mono ?_
  rintro e w2 ⟨rfl, hS⟩
  replace HS := Lib.hid hS
  clear hS HR
  go_wp2_with fail
  refine (cpu_x 5 3 _).mono ?_
  rintro e w1 ⟨A, c, rfl, hr, hb⟩
  have HR := Lib.hid hr
  replace HS := Lib.hid (HS.out.go (IntO.obj _ _ _ _ _) hb)
  clear hr hb
  go_wp2_with fail
  refine (HS.out.turn (fun F h => mput_go 5 3 lv_e4 (lv_s4 3) lv_m4 HR.out (by simp) h)).mono ?_
  rintro e w2 ⟨rfl, hS⟩
  replace HS := Lib.hid hS
  clear hS HR
  go_wp2_with fail
  refine (cpu_x 8 4 _).mono ?_
  rintro e w1 ⟨A, c, rfl, hr, hb⟩
  have HR := Lib.hid hr
  replace HS := Lib.hid (HS.out.go (IntO.obj _ _ _ _ _) hb)
  clear hr hb
  go_wp2_with fail
  refine (HS.out.turn (fun F h => mput_go 8 4 lv_e5 lv_s5 lv_m5 HR.out (by simp) h)).mono ?_
  rintro e w2 ⟨rfl, hS⟩
  replace HS := Lib.hid hS
  clear hS HR
  go_wp2_with fail
  have CN := HS.out.read (fun F h => mnext_pos (mn := 9) (mk := 6) h (by omega) (by omega) (by decide) lv_bt)
  have h9 : ((9 : Nat) : Int) = 9 := rfl
  rw [h9, show nxL [(5, 1, 1)] 9 = [(5, 1, 1)] from by decide, show nxT [(5, 1, 1)] 9 0 6 = 6 from by decide] at CN
  have CN := Lib.hid CN
  clear h9
  refine CN.out.mono ?_
  rintro e w2 ⟨ov, X, rfl, hX, hmap, hb⟩
  replace HS := Lib.hid (HS.out.go (IntO.obj _ _ _ _ _) hb)
  obtain ⟨g, c, hov, q2⟩ : ∃ g c, ov = .slice (some ⟨g, 0, none⟩) 1 c ∧ w2.cell? ⟨g, 2, none⟩ = some (.int .i64 5) := by
    have hXl : X.length = 1 := by have := congrArg List.length hmap; simpa using this
    obtain ⟨g, c, h0, _, _, q2, _⟩ := hX.at_ (k := 0) (by omega)
    have ht : X[0].2.2.1 = 5 := by
      have h1 : (X.map smC)[0]'(by simpa using (show 0 < X.length by omega)) = smC X[0] := List.getElem_map ..
      have h2 : smC X[0] = smE [((m0, L0), [(5, 1), (8, 4), (9, 2)])] (5, 1, 1) := by rw [← h1]; simp [hmap]
      have := congrArg (fun y => y.2.1) h2
      exact this
    rw [ht] at q2
    simp only [Nat.zero_mul, Nat.zero_add] at q2
    exact ⟨g, c, by rw [h0, hXl], q2⟩
  subst hov
  clear hX hmap hb CN
  go_wp2_with fail
  clear q2
  have CPs := Lib.hid (HS.out.turn (fun F h => mpass_any (to := 6) h))
  rw [show passE 3 9 0 6 = 0 from by decide, show passP 3 9 0 6 = 6 from by decide] at CPs
  refine CPs.out.mono ?_
  rintro e w2 ⟨rfl, hS⟩
  replace HS := Lib.hid hS
  clear hS CPs
  go_wp2_with fail
  refine (cpu_x 8 5 _).mono ?_
  rintro e w1 ⟨A, c, rfl, hr, hb⟩
  have HR := Lib.hid hr
  replace HS := Lib.hid (HS.out.go (IntO.obj _ _ _ _ _) hb)
  clear hr hb
  go_wp2_with fail
  refine (HS.out.turn (fun F h => mput_go 8 5 lv_e6 rfl rfl HR.out (by simp) h)).mono ?_
  rintro e w2 ⟨rfl, hS⟩
  have HE := Lib.hid hS.below
  clear hS HR
  go_wp2_with fail
  go_ret
  exact ⟨rfl, HE.out⟩
end Go.Proofs.Ytangcgfchalnaaa

/- mark: May and Put of no intake; MarkNil, walked. -/
namespace Go.Proofs.Ytangcgfchalnaaa
open Go.RowKit
section
variable {w : World} {m : ByteArray} {A : Option Addr} {n c : Nat} {tm x : Int}
set_option maxRecDepth 100000 in
theorem mmay_nil : Calls Try.prog 21 #[.pointer none, .agg #[.string m, .slice A n c, .int .i64 tm, .int .i64 x]] w fun e w' => e = .returned (.int .i64 1) ∧ Below w.heap.size w w' := by
  have HX0 := Lib.hid (newB w (.cells #[.pointer none] 25))
  have HX01 := Lib.hid (keepA HX0.out (.cells #[.string m, .slice A n c, .int .i64 tm, .int .i64 x] 34))
  have HB := Lib.hid (below_alloc (below_alloc (Below.refl w.heap.size w) (.cells #[.pointer none] 25)) (.cells #[.string m, .slice A n c, .int .i64 tm, .int .i64 x] 34))
  have k0 := cellAt (o := 0) (v := .pointer none) HX01.out rfl
  go_enter Try.func21, Try.ntmps21
  go_wp2_with fail
  refine (mright_nil _).mono ?_
  rintro e w1 ⟨rfl, rfl⟩
  go_wp2_with fail
  go_ret
  exact ⟨rfl, HB.out⟩
set_option maxRecDepth 100000 in
theorem mput_nil : Calls Try.prog 9 #[.pointer none, .agg #[.string m, .slice A n c, .int .i64 tm, .int .i64 x]] w fun e w' => e = .returned (.int .i64 1) ∧ Below w.heap.size w w' := by
  have HX := Lib.hid (newB w (.cells #[.string m, .slice A n c, .int .i64 tm, .int .i64 x] 34))
  have HB := Lib.hid (below_alloc (Below.refl w.heap.size w) (.cells #[.string m, .slice A n c, .int .i64 tm, .int .i64 x] 34))
  have k0 := cellAt (o := 0) (v := .string m) HX.out rfl
  have k1 := cellAt (o := 1) (v := .slice A n c) HX.out rfl
  have k2 := cellAt (o := 2) (v := .int .i64 tm) HX.out rfl
  have k3 := cellAt (o := 3) (v := .int .i64 x) HX.out rfl
  go_enter Try.func9, Try.ntmps9
  go_wp2_with fail
  clear k0 k1 k2 k3
  refine mmay_nil.mono ?_
  rintro e w1 ⟨rfl, hb⟩
  have HB1 := Lib.hid (HB.out.trans (hb.mono HB.out.size))
  clear hb
  go_wp2_with fail
  go_ret
  exact ⟨rfl, HB1.out⟩
variable {kd N T : Int}
set_option maxHeartbeats 4000000 in
set_option maxRecDepth 100000 in
theorem light_one {b : Nat} {L : List Lb} (hb : w.heap[b]? = some (.cells #[.int .i64 kd, .string m, .slice A n c, .int .i64 tm, .int .i64 x, .int .i64 N, .int .i64 T] 47 (0, 0))) (hn : L.length = n) (hr : RdLb w A L) :
    Calls Try.prog 19 #[.slice (some ⟨b, 0, none⟩) 1 1] w (Tells True w) := by
  have HR := Lib.hid (And.intro hn hr)
  have HBk := Lib.hid hb
  clear hb hr hn
  go_enter Try.func19, Try.ntmps19
  go_wp2_with fail
  go_loopw [3] (fun v wr => ∃ i : Nat, v = .int .i64 (i : Int) ∧ i ≤ 1 ∧ Hid (Below w.heap.size w wr)) (fun v _ => 1 - (intOf v).toNat)
  case atStart => exact ⟨0, rfl, by omega, Lib.hid (Below.refl _ _)⟩
  case round =>
    obtain ⟨i, rfl, hi, HB⟩ := hrel
    by_cases h1 : i = 0
    · subst h1
      have HX := Lib.hid (keepB HBk.out HB.out)
      have k1 := cellAt (o := 1) (v := .string m) HX.out rfl
      have k2 := cellAt (o := 2) (v := .slice A n c) HX.out rfl
      have k3 := cellAt (o := 3) (v := .int .i64 tm) HX.out rfl
      have k4 := cellAt (o := 4) (v := .int .i64 x) HX.out rfl
      rw [show (((0 : Nat)) : Int) = 0 from rfl]
      have HB1 := Lib.hid (below_alloc HB.out (.cells #[.string m, .slice A n c, .int .i64 tm, .int .i64 x] 34))
      have HNw := Lib.hid (newB wr (.cells #[.string m, .slice A n c, .int .i64 tm, .int .i64 x] 34))
      have CL : Hid (Calls Try.prog 7 #[.slice (some ⟨wr.heap.size, 0, none⟩) 1 1, .int .i64 1] (wr.alloc (.cells #[.string m, .slice A n c, .int .i64 tm, .int .i64 x] 34)) (Tells True (wr.alloc (.cells #[.string m, .slice A n c, .int .i64 tm, .int .i64 x] 34)))) := Lib.hid (lightS_any (c := 1) (L := [(m, (A, c, L), tm, x)]) (P := True) 1 ⟨rfl, ⟨rfl, fun _ => ⟨_, rfl, only_lt HNw.out, World.news_of_block (cs := #[.string m, .slice A L.length c, .int .i64 tm, .int .i64 x]) (t := 34) (fr := (0, 0)) (by rw [HR.out.1]; exact HNw.out)⟩⟩, fun y hy => by
        obtain rfl := List.mem_singleton.1 hy
        exact (HR.out.2.below HB.out).below (below_alloc (Below.refl _ _) _)⟩ (by decide) (fun _ _ => trivial))
      go_wp2_with fail
      clear k1 k2 k3 k4
      refine CL.out.mono ?_
      rintro e w1 ⟨q, rfl, hq, hb2⟩
      have HB2 := Lib.hid (HB1.out.trans (hb2.mono HB1.out.size))
      clear hq hb2 CL
      cases q
      · go_wp2_with fail
        go_ret
        exact ⟨false, rfl, fun h => (by cases h), HB2.out⟩
      · go_wp2_with fail
        go_roundw
        case rel => exact ⟨1, by go_num, by omega, HB2⟩
        case measure => simp [intOf]
    · obtain rfl : i = 1 := by omega
      go_wp2_with fail
      go_ret
      exact ⟨true, rfl, fun _ => trivial, HB.out⟩
set_option maxHeartbeats 8000000 in
set_option maxRecDepth 100000 in
theorem mnil_any {L : List Lb} (hn : L.length = n) (hr : RdLb w A L) :
    Calls Try.prog 5 #[.agg #[.int .i64 kd, .string m, .slice A n c, .int .i64 tm, .int .i64 x, .int .i64 N, .int .i64 T]] w fun e w' => e = .returned (.bool true) ∧ Below w.heap.size w w' := by
  have HR := Lib.hid (And.intro hn hr)
  clear hr hn
  have HX := Lib.hid (newB w (.cells #[.int .i64 kd, .string m, .slice A n c, .int .i64 tm, .int .i64 x, .int .i64 N, .int .i64 T] 47))
  have HB := Lib.hid (below_alloc (Below.refl w.heap.size w) (.cells #[.int .i64 kd, .string m, .slice A n c, .int .i64 tm, .int .i64 x, .int .i64 N, .int .i64 T] 47))
  go_enter Try.func5, Try.ntmps5
  go_wp2_with fail
  refine (lives_any _).mono ?_
  rintro e w1 ⟨rfl, hb1⟩
  have HX1 := Lib.hid (keepB HX.out hb1)
  have HB1 := Lib.hid (HB.out.trans (hb1.mono HB.out.size))
  clear hb1 HX
  have k0 := cellAt (o := 0) (v := .int .i64 kd) HX1.out rfl
  have k1 := cellAt (o := 1) (v := .string m) HX1.out rfl
  have k2 := cellAt (o := 2) (v := .slice A n c) HX1.out rfl
  have k3 := cellAt (o := 3) (v := .int .i64 tm) HX1.out rfl
  have k4 := cellAt (o := 4) (v := .int .i64 x) HX1.out rfl
  have k5 := cellAt (o := 5) (v := .int .i64 N) HX1.out rfl
  have k6 := cellAt (o := 6) (v := .int .i64 T) HX1.out rfl
  have HB2 := Lib.hid (below_alloc HB1.out (.cells #[.int .i64 kd, .string m, .slice A n c, .int .i64 tm, .int .i64 x, .int .i64 N, .int .i64 T] 47))
  have CL := Lib.hid (light_one (newB w1 (.cells #[.int .i64 kd, .string m, .slice A n c, .int .i64 tm, .int .i64 x, .int .i64 N, .int .i64 T] 47)) HR.out.1 ((HR.out.2.below HB1.out).below (below_alloc (Below.refl _ _) _)))
  go_wp2_with fail
  clear k0 k1 k2 k3 k4 k5 k6
  refine CL.out.mono ?_
  rintro e w2 ⟨q, rfl, hq, hb2⟩
  have HX2 := Lib.hid (keepB (keepA HX1.out (.cells #[.int .i64 kd, .string m, .slice A n c, .int .i64 tm, .int .i64 x, .int .i64 N, .int .i64 T] 47)) hb2)
  have HB3 := Lib.hid (HB2.out.trans (hb2.mono HB2.out.size))
  clear hq hb2 CL HX1 HB2
  cases q
  · go_wp2_with fail
    go_ret
    exact ⟨rfl, HB3.out⟩
  have k1 := cellAt (o := 1) (v := .string m) HX2.out rfl
  have k2 := cellAt (o := 2) (v := .slice A n c) HX2.out rfl
  have k3 := cellAt (o := 3) (v := .int .i64 tm) HX2.out rfl
  have k4 := cellAt (o := 4) (v := .int .i64 x) HX2.out rfl
  have k5 := cellAt (o := 5) (v := .int .i64 N) HX2.out rfl
  have k6 := cellAt (o := 6) (v := .int .i64 T) HX2.out rfl
  go_wp2_with fail
  refine (mnext_nil _ _).mono ?_
  rintro e w3 ⟨rfl, rfl⟩
  go_wp2_with fail
  refine (mtrim_nil _ _).mono ?_
  rintro e w4 ⟨rfl, rfl⟩
  go_wp2_with fail
  refine mmay_nil.mono ?_
  rintro e w5 ⟨rfl, hb5⟩
  have HX5 := Lib.hid (keepB HX2.out hb5)
  have HB5 := Lib.hid (HB3.out.trans (hb5.mono HB3.out.size))
  clear hb5 k1 k2 k3 k4 k5 k6 HX2
  have k1 := cellAt (o := 1) (v := .string m) HX5.out rfl
  have k2 := cellAt (o := 2) (v := .slice A n c) HX5.out rfl
  have k3 := cellAt (o := 3) (v := .int .i64 tm) HX5.out rfl
  have k4 := cellAt (o := 4) (v := .int .i64 x) HX5.out rfl
  go_wp2_with fail
  refine mput_nil.mono ?_
  rintro e w6 ⟨rfl, hb6⟩
  have HX6 := Lib.hid (keepB HX5.out hb6)
  have HB6 := Lib.hid (HB5.out.trans (hb6.mono HB5.out.size))
  clear hb6 k1 k2 k3 k4 HX5
  have k6 := cellAt (o := 6) (v := .int .i64 T) HX6.out rfl
  go_wp2_with fail
  refine (mpass_nil _ _).mono ?_
  rintro e w7 ⟨rfl, rfl⟩
  go_wp2_with fail
  refine (mmark_nil _).mono ?_
  rintro e w8 ⟨rfl, rfl⟩
  go_wp2_with fail
  refine (mpassed_nil _).mono ?_
  rintro e w9 ⟨rfl, rfl⟩
  go_wp2_with fail
  refine (mBetween_nil _ _ _).mono ?_
  rintro e w10 ⟨rfl, rfl⟩
  go_wp2_with fail
  refine (msamples_nil _).mono ?_
  rintro e w11 ⟨rfl, rfl⟩
  go_wp2_with fail
  refine (mseries_nil _).mono ?_
  rintro e w12 ⟨rfl, rfl⟩
  go_wp2_with fail
  refine (mbytes_nil _).mono ?_
  rintro e w13 ⟨rfl, rfl⟩
  go_wp2_with fail
  go_ret
  exact ⟨rfl, HB6.out⟩
end
end Go.Proofs.Ytangcgfchalnaaa

/- A law that returns true and leaves all that was there as it was: from the walk to the row. Arguments are carried unopened. -/
namespace Go.Proofs.Ytangcgfchalnaaa
open Go.ChangeShapes Go.WideShapes Go.ChangeAt Go.RowKit Go.Joins
theorem ownL : ownKnob Try.prog.godebug = none := by kernel_rfl
theorem laidOut : laidOutB Try.prog = true := by kernel_rfl
section
variable {H : Type} {enc : TypeId × Value → H} {P : Program}
theorem args_below (hl : laidOutB P = true) {W W' : World} (hb : Below W.heap.size W W') {sp : Nat → Bool} : ∀ {ts : List TypeId} {vs : List Value} {ds : List (DataW H)} {ps : List MemPlace},
    (ts.all fun t => P.readableRec t && decide (t < P.types.size)) = true → (∀ x ∈ ps, x.block < W.heap.size) → (∀ x ∈ ps, sp x.block = true) →
    DataW.TrodAll enc P W 0 (fun _ => true) true ts vs ds ps → DataW.TrodAll enc P W' 0 sp true ts vs ds ps
  | [], [], [], _, _, _, _, h => h
  | [], _ :: _, _, _, _, _, _, h => h.elim
  | [], [], _ :: _, _, _, _, _, h => h.elim
  | _ :: _, [], _, _, _, _, _, h => h.elim
  | _ :: _, _ :: _, [], _, _, _, _, h => h.elim
  | t :: ts, v :: vs, d :: ds, ps, ht, hlt, hsp, h => by
    obtain ⟨p, q, h1, h2, rfl⟩ := h
    simp only [List.all_cons, Bool.and_eq_true, decide_eq_true_eq] at ht
    refine ⟨p, q, WideElems.Trod_stays hl ht.1.1 ht.1.2 h1 (fun x hx => hb.same (hlt x (List.mem_append_left _ hx))) (fun x hx => hsp x (List.mem_append_left _ hx)), ?_, rfl⟩
    exact args_below hl hb ht.2 (fun x hx => hlt x (List.mem_append_right _ hx)) (fun x hx => hsp x (List.mem_append_right _ hx)) h2
/-- The row's 'post' of a law: no variable is named; one truth is returned. -/
theorem law_post {f : Func} {s : ChangeSpec} {apart fresh handsOn again : Bool} {W W' : World} {args : Array Value} {v : Value} {ds : List (DataW H)} {before : List MemPlace} (hl : laidOutB P = true)
    (ht : (f.params.toList.all fun t => P.readableRec t && decide (t < P.types.size)) = true) (hs : s.vars = []) (hv : (s.fn H (ds ++ [])).vars = []) (ha : (s.fn H (ds ++ [])).args = ds)
    (hW : DataW.Whole enc P f.params.toList s.vars apart W args.toList ds [] before)
    (hres : ∀ (b : Nat) (sp : Nat → Bool) (hd : Bool), DataW.TrodAll enc P W' b sp hd f.resultTypes.toList (v.resultList f.resultTypes.size) (s.fn H (ds ++ [])).results [])
    (hb : Below W.heap.size W W')
    (hok : ∀ (j : Nat) (t : TypeId) (r : Value), f.resultTypes[j]? = some t → (v.resultList f.resultTypes.size)[j]? = some r → Value.okWide P W' .any 0 t r) :
    s.post enc P f apart fresh handsOn again W args v W' := by
  have old : ∀ p ∈ before, p.block < W.heap.size := hW.lt
  have olds : ∀ p ∈ before, (fun b => decide (b < W.heap.size)) p.block = true := fun p hp => decide_eq_true (old p hp)
  have hW' := hW
  obtain ⟨p, q, hA, hV, rfl, hz, hn⟩ := hW
  rw [hs] at hV
  have hq : q = [] := hV
  subst hq
  rw [List.append_nil] at old olds hW' hz hn
  have hA' := fun (sp : Nat → Bool) hsp => args_below hl hb (sp := sp) ht old hsp hA
  refine ⟨ds, [], p, [], p, [], hW', hres _ _ _, by rw [ha]; exact hA' _ olds, by rw [hs, hv]; exact rfl, World.keptBut_mono (fun x hx => ⟨hx, Or.inr (.inl hx)⟩) (hb.frame (· ∈ p)), fun _ => ?_⟩
  refine ⟨hok, _, _, ([] ++ p) ++ [], ⟨[] ++ p, [], trodAll_append (hA' _ (fun _ _ => rfl)) (hres _ _ _), (by rw [hs]; exact rfl : DataW.TrodVars enc P W' _ s.vars [] []), rfl, fun b off hp => ?_, fun ha => ?_⟩, fun x hx _ => ?_⟩
  · have hin : MemPlace.cell b off ∈ p := by simpa using hp
    exact (hb.frozen (old _ hin)).trans (hz b off hin)
  · simpa using hn ha
  · simpa using hx
end
end Go.Proofs.Ytangcgfchalnaaa

/- Arguments that are samples, slices of them, acts: opened. -/
namespace Go.Proofs.Ytangcgfchalnaaa
open Go.ChangeShapes Go.WideShapes Go.ChangeAt Go.RowKit Go.Joins Go.Deep
theorem opCell_lt {w : World} {a : Addr} {v : Value} (h : w.cell? a = some v) : a.block < w.heap.size := by
  rcases Nat.lt_or_ge a.block w.heap.size with h1 | h1
  · exact h1
  · simp [World.cell?, Array.getElem?_eq_none h1] at h
theorem opWf {n : Int} (h : (Lit.int .i64 n).wf = true) : In64 n := by
  simp [Lit.wf, IntKind.min, IntKind.max, IntKind.signed, IntKind.bits] at h
  exact h
section
variable {H : Type} {enc : TypeId × Value → H} {w : World} {base : Nat} {spare : Nat → Bool} {held : Bool}
/-- A slice whose elements open. -/
theorem open_rows {α : Type} [Inhabited α] {f : α → List Value} {s : Nat} {T ST : TypeId} (ht : Try.prog.underlying ST = some (.slice T)) (hc : Try.prog.cellsOf T = s) (hs0 : 0 < s) (hs : ∀ x, (f x).length = s) {R : α → Prop}
    (hel : ∀ n cs x, DataW.trod enc Try.prog w base spare held n T cs = some x → ∃ a : α, cs = f a ∧ R a) {fuel : Nat} {cs : List Value} {x : DataW H × List MemPlace} (h : DataW.trod enc Try.prog w base spare held fuel ST cs = some x) :
    ∃ (A : Option Addr) (cap : Nat) (L : List α), cs = [.slice A L.length cap] ∧ Reads w w.heap.size s A L.length (rowF f L) ∧ (0 < L.length → ∀ ad, A = some ad → ad.block < w.heap.size) ∧ ∀ a ∈ L, R a := by
  rcases open_slice ht h with ⟨hcs, _⟩ | ⟨a, len, cap, m, n, D, Pl, hcs, hb, hl, hm, hmm, hx, hi⟩
  · exact ⟨none, 0, [], hcs, ⟨by simp [rowF], fun h => absurd h (by simp)⟩, fun h => absurd h (by simp), by simp⟩
  · have hlm : len ≤ m := by rw [hmm]; split <;> omega
    have each : ∀ i, ∃ e : α, i < len → R e ∧ ∀ r u, (f e)[r]? = some u → w.cell? (a.add (i * s + r)) = some u := fun i => by
      by_cases hi0 : i < len
      · obtain ⟨cs', h1, h2⟩ := hi i (by omega)
        rw [hc] at h1
        obtain ⟨_, hlen, hcell⟩ := World.cells?_some h1
        obtain ⟨e, he, hR⟩ := hel _ _ _ h2
        refine ⟨e, fun _ => ⟨hR, fun r u hu => ?_⟩⟩
        have hr : r < s := by
          rcases Nat.lt_or_ge r s with h | h
          · exact h
          · rw [List.getElem?_eq_none (by rw [hs]; exact h)] at hu; cases hu
        have := hcell r (by omega)
        rw [add_of_add] at this
        rw [this, he]; exact hu
      · exact ⟨default, fun h => absurd h hi0⟩
    let L := (List.range len).map fun i => Classical.choose (each i)
    have hLl : L.length = len := by simp [L]
    have hL : ∀ i (h : i < L.length), R L[i] ∧ ∀ r u, (f L[i])[r]? = some u → w.cell? (a.add (i * s + r)) = some u := fun i h => by
      have h' : i < len := by rw [← hLl]; exact h
      have := Classical.choose_spec (each i) h'
      simpa [L] using this
    have hcell : ∀ j u, (rowF f L)[j]? = some u → w.cell? (a.add j) = some u := fun j u hu => by
      have hj : j < L.length * s := by
        rcases Nat.lt_or_ge j (L.length * s) with h | h
        · exact h
        · rw [List.getElem?_eq_none (by rw [rowF_len hs]; exact h)] at hu; cases hu
      have hi1 : j / s < L.length := Nat.div_lt_of_lt_mul (by rw [Nat.mul_comm]; exact hj)
      have hr : j % s < s := Nat.mod_lt _ hs0
      have he : j / s * s + j % s = j := by rw [Nat.mul_comm]; exact Nat.div_add_mod j s
      have := (hL (j / s) hi1).2 (j % s) u (by rw [← rowF_get hs L (j / s) hi1 (j % s) hr, he]; exact hu)
      rw [he] at this; exact this
    have hlt : 0 < L.length → a.block < w.heap.size := fun h0 => by
      have h1 : 0 < (rowF f L).length := by rw [rowF_len hs]; exact Nat.mul_pos h0 hs0
      have := opCell_lt (hcell 0 _ (List.getElem?_eq_getElem h1))
      rwa [block_of_add] at this
    refine ⟨some a, cap, L, by rw [hcs, hLl], ⟨rowF_len hs L, fun h0 => ⟨a, rfl, hlt h0, hcell⟩⟩, fun h0 ad e => by cases e; exact hlt h0, fun e he => ?_⟩
    obtain ⟨i, hi, rfl⟩ := List.mem_iff_getElem.1 he
    exact (hL i hi).1
/-! ### Labels -/
abbrev lbc (x : Lb) : List Value := [.string x.1, .string x.2]
theorem lbF_row : ∀ L : List Lb, lbF L = rowF lbc L
  | [] => rfl
  | x :: r => by simp only [lbF, rowF, lbF_row r]; rfl
theorem cellsLb : Try.prog.cellsOf 90 = 2 := by kernel_rfl
theorem cellsStr : Try.prog.cellsOf 9 = 1 := by kernel_rfl
theorem undLb : ∃ f0 f1 : Field, Try.prog.underlying 90 = some (.struct #[f0, f1]) ∧ f0.offset = 0 ∧ f1.offset = 1 ∧ f0.type = 9 ∧ f1.type = 9 := ⟨_, _, Try.underlying90, rfl, rfl, rfl, rfl⟩
set_option maxRecDepth 100000 in
theorem open_lb {n : Nat} {cs : List Value} {x : DataW H × List MemPlace} (h : DataW.trod enc Try.prog w base spare held n 90 cs = some x) : ∃ a : Lb, cs = lbc a := by
  obtain ⟨f0, f1, hu, o0, o1, t0, t1⟩ := undLb
  obtain ⟨xs, k, hk, hxy, hlen, hxl, hg⟩ := DataW.trod_struct hu h
  rw [cellsLb] at hlen
  match xs, hxl, cs, hlen with
  | [y0, y1], _, [v0, v1], _ =>
    have g0 := hg 0 f0 rfl
    have g1 := hg 1 f1 rfl
    simp [o0, o1, t0, t1, cellsStr] at g0 g1
    obtain ⟨s0, q0, _, _⟩ := DataW.trod_string Try.underlying9 g0
    obtain ⟨s1, q1, _, _⟩ := DataW.trod_string Try.underlying9 g1
    simp at q0 q1
    subst q0 q1
    exact ⟨(s0, s1), rfl⟩
theorem open_lbs {n : Nat} {cs : List Value} {x : DataW H × List MemPlace} (h : DataW.trod enc Try.prog w base spare held n 30 cs = some x) : ∃ p : Ls, cs = [lsV p] ∧ RdLs w p ∧ (0 < p.2.2.length → ∀ ad, p.1 = some ad → ad.block < w.heap.size) := by
  obtain ⟨A, cap, L, h1, h2, h3, _⟩ := open_rows (f := lbc) (R := fun _ => True) Try.underlying30 cellsLb (by decide) (fun _ => rfl) (fun n cs x h => by obtain ⟨a, e⟩ := open_lb h; exact ⟨a, e, trivial⟩) h
  exact ⟨(A, cap, L), h1, by show Reads w w.heap.size 2 A L.length (lbF L); rw [lbF_row]; exact h2, h3⟩
/-! ### Samples, acts -/
theorem cellsI64 : Try.prog.cellsOf 2 = 1 := by kernel_rfl
theorem cellsInt : Try.prog.cellsOf 3 = 1 := by kernel_rfl
theorem cellsLs : Try.prog.cellsOf 30 = 1 := by kernel_rfl
theorem cellsSm : Try.prog.cellsOf 34 = 4 := by kernel_rfl
theorem cellsSr : Try.prog.cellsOf 32 = 2 := by kernel_rfl
def LsIn (w : World) (p : Ls) : Prop := RdLs w p ∧ (0 < p.2.2.length → ∀ ad, p.1 = some ad → ad.block < w.heap.size)
theorem undSr : ∃ f0 f1 : Field, Try.prog.underlying 32 = some (.struct #[f0, f1]) ∧ f0.offset = 0 ∧ f1.offset = 1 ∧ f0.type = 9 ∧ f1.type = 30 := ⟨_, _, Try.underlying32, rfl, rfl, rfl, rfl⟩
theorem undSm : ∃ f0 f1 f2 : Field, Try.prog.underlying 34 = some (.struct #[f0, f1, f2]) ∧ f0.offset = 0 ∧ f1.offset = 2 ∧ f2.offset = 3 ∧ f0.type = 32 ∧ f1.type = 2 ∧ f2.type = 2 := ⟨_, _, _, Try.underlying34, rfl, rfl, rfl, rfl, rfl, rfl⟩
set_option maxRecDepth 100000 in
theorem open_sm {n : Nat} {v0 v1 v2 v3 : Value} {x : DataW H × List MemPlace} (h : DataW.trod enc Try.prog w base spare held n 34 [v0, v1, v2, v3] = some x) : ∃ (m : ByteArray) (p : Ls) (t k : Int), v0 = .string m ∧ v1 = lsV p ∧ v2 = .int .i64 t ∧ v3 = .int .i64 k ∧ LsIn w p ∧ In64 t ∧ In64 k := by
  obtain ⟨f0, f1, f2, hu, o0, o1, o2, t0, t1, t2⟩ := undSm
  obtain ⟨xs, k, hk, hxy, hlen, hxl, hg⟩ := DataW.trod_struct hu h
  match xs, hxl with
  | [y0, y1, y2], _ =>
    have g0 := hg 0 f0 rfl
    have g1 := hg 1 f1 rfl
    have g2 := hg 2 f2 rfl
    simp [o0, o1, o2, t0, t1, t2, cellsSr, cellsI64] at g0 g1 g2
    obtain ⟨x1, q1, _, w1⟩ := DataW.trod_int Try.underlying2 g1
    obtain ⟨x2, q2, _, w2⟩ := DataW.trod_int Try.underlying2 g2
    obtain ⟨e0, e1, hu, o0, o1, t0, t1⟩ := undSr
    obtain ⟨ys, k, hk, hxy, hlen, hyl, hg⟩ := DataW.trod_struct hu g0
    match ys, hyl with
    | [z0, z1], _ =>
      have j0 := hg 0 e0 rfl
      have j1 := hg 1 e1 rfl
      simp [o0, o1, t0, t1, cellsStr, cellsLs] at j0 j1
      obtain ⟨s0, r0, _, _⟩ := DataW.trod_string Try.underlying9 j0
      obtain ⟨p, r1, hp⟩ := open_lbs j1
      simp at q1 q2 r0 r1
      exact ⟨s0, p, x1, x2, r0, r1, q1, q2, hp, opWf w1, opWf w2⟩

theorem array7 {α : Type} {cs : Array α} (h : cs.size = 7) : ∃ c0 c1 c2 c3 c4 c5 c6, cs = #[c0, c1, c2, c3, c4, c5, c6] := by
  obtain ⟨l⟩ := cs
  match l, h with
  | [c0, c1, c2, c3, c4, c5, c6], _ => exact ⟨c0, c1, c2, c3, c4, c5, c6, rfl⟩
theorem cellsAct : Try.prog.cellsOf 47 = 7 := by kernel_rfl
theorem undAct : ∃ f0 f1 f2 f3 : Field, Try.prog.underlying 47 = some (.struct #[f0, f1, f2, f3]) ∧ f0.offset = 0 ∧ f1.offset = 1 ∧ f2.offset = 5 ∧ f3.offset = 6 ∧ f0.type = 3 ∧ f1.type = 34 ∧ f2.type = 3 ∧ f3.type = 2 := ⟨_, _, _, _, Try.underlying47, rfl, rfl, rfl, rfl, rfl, rfl, rfl, rfl⟩
set_option maxRecDepth 100000 in
theorem open_act {r : Reach} {b0 : Nat} {v : Value} {d : DataW H} {p : List MemPlace} (hv : Value.okWide Try.prog w r b0 47 v) (h : DataW.Trod enc Try.prog w base spare held 47 v d p) :
    ∃ (kd : Int) (m : ByteArray) (q : Ls) (t x N T : Int), v = .agg #[.int .i64 kd, .string m, lsV q, .int .i64 t, .int .i64 x, .int .i64 N, .int .i64 T] ∧ RdLs w q := by
  obtain ⟨f0, f1, f2, f3, hu, o0, o1, o2, o3, t0, t1, t2, t3⟩ := undAct
  obtain ⟨cs, rfl, hsz⟩ := okWide_struct hu hv
  obtain ⟨v0, v1, v2, v3, v4, v5, v6, rfl⟩ := array7 (hsz.trans cellsAct)
  obtain ⟨fuel, hf⟩ := h
  obtain ⟨y0, y1, y2, y3, n, _, _, g0, g1, g2, g3⟩ := trod_struct4 hu hf
  simp [Value.cells, o0, o1, o2, o3, t0, t1, t2, t3, cellsInt, cellsSm, cellsI64] at g0 g1 g2 g3
  obtain ⟨x0, q0, _, _⟩ := DataW.trod_int Try.underlying3 g0
  obtain ⟨m, q, t, k, rfl, rfl, rfl, rfl, hp, _⟩ := open_sm g1
  obtain ⟨x2, q2, _, _⟩ := DataW.trod_int Try.underlying3 g2
  obtain ⟨x3, q3, _, _⟩ := DataW.trod_int Try.underlying2 g3
  simp at q0 q2 q3
  subst q0 q2 q3
  exact ⟨x0, m, q, t, k, x2, x3, rfl, hp.1⟩
set_option maxRecDepth 100000 in
theorem open_sms {r : Reach} {b0 : Nat} {v : Value} {d : DataW H} {p : List MemPlace} (hv : Value.okWide Try.prog w r b0 22 v) (h : DataW.Trod enc Try.prog w base spare held 22 v d p) :
    ∃ (A : Option Addr) (X : List Sm) (cap : Nat), v = .slice A X.length cap ∧ RdSm w A X.length X ∧ ∀ x ∈ X, In64 x.2.2.1 ∧ In64 x.2.2.2 := by
  obtain ⟨A, n0, c0, rfl⟩ := okWide_slice Try.underlying22 hv
  obtain ⟨fuel, hf⟩ := h
  obtain ⟨A', cap, X, h1, h2, h3, h4⟩ := open_rows (f := smc) (R := fun x => LsIn w x.2.1 ∧ In64 x.2.2.1 ∧ In64 x.2.2.2) Try.underlying22 cellsSm (by decide) (fun _ => rfl) (fun n cs x h => by
    obtain ⟨f0, f1, f2, hu, _⟩ := undSm
    obtain ⟨_, _, _, _, hlen, _, _⟩ := DataW.trod_struct hu h
    rw [cellsSm] at hlen
    match cs, hlen with
    | [v0, v1, v2, v3], _ =>
      obtain ⟨m, p, t, k, rfl, rfl, rfl, rfl, hp, ht, hk⟩ := open_sm h
      exact ⟨(m, p, t, k), rfl, hp, ht, hk⟩) hf
  exact ⟨A', X, cap, by simpa [Value.cells] using h1, ⟨rfl, h2, fun x hx => (h4 x hx).1.1⟩, fun x hx => (h4 x hx).2⟩
end
end Go.Proofs.Ytangcgfchalnaaa
